/-
  The reference's row of those who may want: a store into it; Add.
  Conditions: where its blocks lie.
-/
import Derived.Test.YtfgplghjgjnggaaDoorPickRefA
import Derived.StillTailTactics
namespace Go.Proofs.YtfgplghjgjnggaaDoor.PickR
open Go.RowKit MapsL ModL RowsK PickC
set_option linter.unusedSimpArgs false
set_option linter.unusedVariables false

theorem flat_set {α : Type} (F : Enc α) : ∀ (l : List α) (i j : Nat) (u : Value) (y : α) (hi : i < l.length), F.enc y = (F.enc l[i]).set j u → j < F.k → F.flat (l.set i y) = (F.flat l).set (i * F.k + j) u := by
  intro l
  induction l with
  | nil => intro i j u y hi; simp at hi
  | cons a l ih =>
    intro i j u y hi he hj
    cases i with
    | zero =>
      simp only [List.set_cons_zero, F.flat_cons, Nat.zero_mul, Nat.zero_add, List.getElem_cons_zero] at he ⊢
      rw [he, List.set_append_left _ _ (by rw [F.len]; exact hj)]
    | succ i =>
      simp only [List.set_cons_succ, F.flat_cons, List.getElem_cons_succ] at he ⊢
      rw [ih i j u y (by simpa using hi) he hj]
      have hle : (F.enc a).length ≤ (i + 1) * F.k + j := by rw [F.len, Nat.add_mul, Nat.one_mul]; omega
      have e2 : (i + 1) * F.k + j - F.k = i * F.k + j := by rw [Nat.add_mul, Nat.one_mul]; omega
      rw [List.set_append_right _ _ hle, F.len, e2]
/-- A store into an owned row. -/
theorem own_store {α : Type} {F : Enc α} {w : World} {b g n cap : Nat} {e : TypeId} {xs : List α} (h : Own F w b e (.slice (some ⟨g, 0, none⟩) n cap) xs) (i j : Nat) (hi : i < xs.length) (hj : j < F.k) (u : Value) (y : α) (hy : F.enc y = (F.enc xs[i]).set j u) :
    Own F (w.setCell ⟨g, i * F.k + j, none⟩ u) b e (.slice (some ⟨g, 0, none⟩) n cap) (xs.set i y) := by
  obtain ⟨h1, h2⟩ := h
  refine ⟨by rw [F.flat_len], ?_⟩
  rcases h2 with ⟨h2, _⟩ | ⟨g', cap', cur, hv, hg, hh, hn, hm, hs, ht⟩
  · cases h2
  · simp only [Value.slice.injEq, Option.some.injEq, Addr.mk.injEq, and_true] at hv
    obtain ⟨rfl, rfl, rfl⟩ := hv
    have hlt := (Array.getElem?_eq_some_iff.1 hh).1
    refine .inr ⟨g, cap, cur.setIfInBounds (i * F.k + j) u, by rw [List.length_set], hg, ?_, by rw [List.length_set]; exact hn, hm, by simpa using hs, ?_⟩
    · simp only [World.setCell, Array.getElem?_modify, if_true, hh]
      simp
    · rw [List.length_set, flat_set F xs i j u y hi hy hj, ← ht]
      simp only [Array.toList_setIfInBounds]
      rw [List.take_set]
theorem own_congr {α : Type} {F : Enc α} {w : World} {b : Nat} {e : TypeId} {v : Value} {xs ys : List α} (h : Own F w b e v xs) (hl : xs.length = ys.length) (hf : F.flat xs = F.flat ys) : Own F w b e v ys := by
  unfold Own at *
  rw [← hl, ← hf]; exact h
theorem own_below {α : Type} {F : Enc α} {w w' : World} {b : Nat} {e : TypeId} {v : Value} {xs : List α} (h : Own F w b e v xs) (hB : Below w.heap.size w w') : Own F w' b e v xs :=
  h.of_block fun k hk => hB.block k (h.lt k hk).2
theorem RefP.below {w w' : World} {q : Nat} {v : Value} {l : List Ent} (h : RefP w q v l) (hB : Below w.heap.size w w') : RefP w' q v l :=
  ⟨(hB.cell (p := ⟨q, 0, none⟩) h.lt).trans h.c0, (hB.frozen (p := ⟨q, 0, none⟩) h.lt).trans h.f0, own_below h.own hB⟩
/-- Only other blocks turn. -/
theorem RefP.mod {w w' : World} {q : Nat} {v : Value} {l : List Ent} (h : RefP w q v l) {S : Nat → Prop} (hM : Mod S w w') (hq : ¬ S q) (hv : ∀ g, v.ownBlock = some g → ¬ S g) : RefP w' q v l :=
  ⟨(hM.cell (p := ⟨q, 0, none⟩) h.lt hq).trans h.c0, (hM.frozen (p := ⟨q, 0, none⟩) h.lt hq).trans h.f0, h.own.of_block fun k hk => hM.block k (h.own.lt k hk).2 (hv k hk)⟩
def scAt (l : List Ent) (k : Int) : Int := if k < 0 then 0 else match l[k.toNat]? with | some x => x.sc | none => 0
theorem scAt_neg (l : List Ent) : scAt l (-1) = 0 := rfl
theorem scAt_some {l : List Ent} {n : Nat} {x : Ent} (h : l[n]? = some x) : scAt l n = x.sc := by
  unfold scAt
  rw [if_neg (by omega), Int.toNat_natCast, h]
theorem own_form {α : Type} {F : Enc α} {w : World} {b : Nat} {e : TypeId} {v : Value} {xs : List α} (h : Own F w b e v xs) : ∃ a n c, v = .slice a n c := by
  obtain ⟨a, c, e, _⟩ := h.slice
  exact ⟨a, _, c, e⟩
theorem lit_one (w : World) (id wt sc : Int) (b : Bool) : RowsK.At E (w.alloc (.cells #[.int .i64 id, .int .i64 wt, .int .i64 sc, .bool b] 44)) (.slice (some ⟨w.heap.size, 0, none⟩) 1 1) [(⟨id, 0, wt, sc, b⟩ : Ent)] :=
  (Own.lit (E := E) (e := 44) w #[.int .i64 id, .int .i64 wt, .int .i64 sc, .bool b] [(⟨id, 0, wt, sc, b⟩ : Ent)] (Nat.le_refl _) (by simp) rfl).at_
set_option maxRecDepth 100000 in
set_option maxHeartbeats 2000000 in
theorem radd_bad {w : World} {q : Nat} {v : Value} {l : List Ent} (h : RefP w q v l) (id wt : Int) (hb : ¬ okAdd id wt) :
    Calls Tryd.prog 8 #[.pointer (some ⟨q, 0, none⟩), .int .i64 id, .int .i64 wt] w fun e w' => e = .returned (.int .i64 1) ∧ w = w' := by
  have hb' : id < 1 ∨ (1 ≤ id ∧ 2147483647 < id) ∨ (1 ≤ id ∧ id ≤ 2147483647 ∧ wt < 1) ∨ (1 ≤ id ∧ id ≤ 2147483647 ∧ 1 ≤ wt ∧ 256 < wt) := by unfold okAdd at hb; omega
  clear h hb
  rcases hb' with h1 | ⟨h1, h2⟩ | ⟨h1, h2, h3⟩ | ⟨h1, h2, h3, h4⟩
  all_goals
    go_enter Tryd.func8, Tryd.ntmps8
    go_wp2
    go_ret
    exact ⟨rfl, rfl⟩
theorem radd_clash {w : World} {q : Nat} {v : Value} {l : List Ent} (h : RefP w q v l) (id wt : Int) (hb : okAdd id wt) (hx : ∃ x ∈ l, x.id = id) :
    Calls Tryd.prog 8 #[.pointer (some ⟨q, 0, none⟩), .int .i64 id, .int .i64 wt] w fun e w' => e = .returned (.int .i64 7) ∧ w = w' := by
  obtain ⟨b1, b2, b3, b4⟩ := hb
  have HA := Lib.hid (at_any h id (by omega))
  clear h
  go_enter Tryd.func8, Tryd.ntmps8
  go_wp2_with (go_at_call 27; (with_reducible refine HA.out.mono ?_); rintro e w1 ⟨rfl, ⟨rfl, hno⟩ | ⟨n, rfl, x, hn, hxi⟩⟩)
  all_goals first
    | (exfalso; obtain ⟨x, hxl, hxi⟩ := hx; exact hno x hxl hxi)
    | (go_ret; exact ⟨rfl, rfl⟩)
theorem radd_full {w : World} {q : Nat} {v : Value} {l : List Ent} (h : RefP w q v l) (id wt : Int) (hb : okAdd id wt) (hx : ∀ x ∈ l, x.id ≠ id) (hl : 100 ≤ l.length) :
    Calls Tryd.prog 8 #[.pointer (some ⟨q, 0, none⟩), .int .i64 id, .int .i64 wt] w fun e w' => e = .returned (.int .i64 4) ∧ w = w' := by
  obtain ⟨b1, b2, b3, b4⟩ := hb
  have HA := Lib.hid (at_any h id (by omega))
  have hc0 := h.c0
  obtain ⟨a, cap, rfl, h1, h2, hel⟩ := h.open
  have hl' : (100 : Int) ≤ (l.length : Int) := by omega
  clear h hel
  go_enter Tryd.func8, Tryd.ntmps8
  go_wp2_with (go_at_call 27; (with_reducible refine HA.out.mono ?_); rintro e w1 ⟨rfl, ⟨rfl, hno⟩ | ⟨n, rfl, x, hn, hxi⟩⟩)
  all_goals first
    | (exfalso; exact hx x (List.mem_of_getElem? hn) hxi)
    | (go_ret; exact ⟨rfl, rfl⟩)
set_option maxRecDepth 100000 in
set_option maxHeartbeats 2000000 in
theorem radd_ok {w : World} {q : Nat} {v : Value} {l : List Ent} (h : RefP w q v l) (id wt : Int) (hb : okAdd id wt) (hx : ∀ x ∈ l, x.id ≠ id) (hl : l.length < 100) :
    Calls Tryd.prog 8 #[.pointer (some ⟨q, 0, none⟩), .int .i64 id, .int .i64 wt] w fun e w' => ∃ k v', e = .returned (.int .i64 0) ∧ Lead l k ∧ (∀ a, RefP w' q v' (l ++ [⟨id, a, wt, scAt l k, false⟩])) ∧ Mod (fun b => b = q ∨ v.ownBlock = some b) w w' ∧ (v'.ownBlock = v.ownBlock ∨ ∃ g, v'.ownBlock = some g ∧ w.heap.size ≤ g) := by
  obtain ⟨b1, b2, b3, b4⟩ := hb
  have HA := Lib.hid (at_any h id (by omega))
  have HLE := Lib.hid (least_ref h)
  have HR := Lib.hid h
  have hc0 := h.c0
  have hlt := h.lt
  obtain ⟨a, cap, rfl, h1, h2, hel⟩ := h.open
  have HEL := Lib.hid hel
  obtain ⟨L, hL⟩ : ∃ L, l.length = L := ⟨_, rfl⟩
  rw [hL] at hl h1 hc0
  have hl' : ¬ (100 : Int) ≤ (L : Int) := by omega
  have HL := Lib.hid hL
  have HVB : Hid ((Value.slice a L cap).ownBlock = (Value.slice a l.length cap).ownBlock) := (by show _ = _; rw [HL.out])
  clear h hel hL
  go_enter Tryd.func8, Tryd.ntmps8
  go_wp2_with (first
    | (go_at_call 27; (with_reducible refine HA.out.mono ?_); rintro e w1 ⟨rfl, ⟨rfl, hno⟩ | ⟨n, rfl, x, hn, hxi⟩⟩)
    | (go_at_call 16; (with_reducible refine HLE.out.mono ?_); rintro e w1 ⟨k, rfl, hK, hB1⟩; have HR1 := Lib.hid (HR.out.below hB1); have hcr1 := HR1.out.c0; rw [HL.out] at hcr1; have how1 := HR1.out.own; rw [HL.out] at how1; have HOW1 := Lib.hid how1; clear how1; have hlt1 := HR1.out.lt; have hs1 := hB1.size; have HLD := Lib.hid hK; rcases hK with ⟨rfl, hno⟩ | ⟨n, x, rfl, hn, hxw, hxb⟩; rotate_left; have hnl := (List.getElem?_eq_some_iff.1 hn).1; obtain ⟨g, rfl, hg1, hg2, _, _, hz, _⟩ := HEL.out n hnl; have hz1 := (hB1.cell (p := ⟨g, n * 4 + 2, none⟩) hg2).trans hz; rw [(List.getElem?_eq_some_iff.1 hn).2] at hz1; have hnL : (n : Int) < (L : Int) := (by rw [HL.out] at hnl; omega); clear hxb hxw; rotate_left)
    | (at_builtin; refine RowsK.wpList_append elem rfl _ _ rfl (q + 1) _ rfl (HOW1.out.alloc _) _ [⟨id, 0, wt, 0, false⟩] rfl (lit_one w1 id wt 0 false) (by rw [HL.out]; simp; omega) (by simp; omega) ?_; intro v2 w2 ho2 hB2 hg2 hat2; obtain ⟨a2, n2, c2, rfl⟩ := own_form ho2; have HO2 := Lib.hid ho2; have hcc := (hB2.cell (p := ⟨q, 0, none⟩) (Nat.lt_succ_self _)).trans ((cell_alloc _ _ _ _ hlt1).trans HR1.out.c0); have hcf := (hB2.frozen (p := ⟨q, 0, none⟩) (Nat.lt_succ_self _)).trans ((frozen_alloc _ _ _ _ hlt1).trans HR1.out.f0); have HX := Lib.hid (And.intro hB2 (And.intro hg2 hat2)); clear ho2 hB2 hg2 hat2)
    | (at_builtin; refine RowsK.wpList_append elem rfl _ _ rfl (q + 1) _ rfl (HOW1.out.alloc _) _ [⟨id, 0, wt, x.sc, false⟩] rfl (lit_one w1 id wt x.sc false) (by rw [HL.out]; simp; omega) (by simp; omega) ?_; intro v2 w2 ho2 hB2 hg2 hat2; obtain ⟨a2, n2, c2, rfl⟩ := own_form ho2; have HO2 := Lib.hid ho2; have hcc := (hB2.cell (p := ⟨q, 0, none⟩) (Nat.lt_succ_self _)).trans ((cell_alloc _ _ _ _ hlt1).trans HR1.out.c0); have hcf := (hB2.frozen (p := ⟨q, 0, none⟩) (Nat.lt_succ_self _)).trans ((frozen_alloc _ _ _ _ hlt1).trans HR1.out.f0); have HX := Lib.hid (And.intro hB2 (And.intro hg2 hat2)); clear ho2 hB2 hg2 hat2))
  all_goals first
    | (exfalso; exact hx x (List.mem_of_getElem? hn) hxi)
    | skip
  all_goals
    go_ret
    have hne : (Value.slice a2 n2 c2).ownBlock ≠ some q := fun e => by have := (HO2.out.lt q e).1; omega
    refine ⟨_, _, rfl, HLD.out, fun a' => ⟨World.cell?_setCell_same _ _ _ hcc, by simp [go_sem, hcf], ?_⟩, ?_, ?_⟩
    · refine own_congr (HO2.out.setCell ⟨q, 0, none⟩ _ hne) (by simp) ?_
      rw [E.flat_app, E.flat_app]
      first | rw [scAt_neg] | rw [scAt_some hn]
      rfl
    · refine Mod.setCell ?_ (fun _ => .inl rfl) _
      refine Mod.grown ((Mod.ofBelow hB1 (fun k hk hk2 => by omega)).alloc _) HX.out.2.1 (fun k hk hk2 => .inr (HVB.out.symm.trans hk))
    · rcases HX.out.2.2 with h | h
      · exact .inl (h.trans HVB.out)
      · exact .inr ⟨_, h, by simp; omega⟩
end Go.Proofs.YtfgplghjgjnggaaDoor.PickR
