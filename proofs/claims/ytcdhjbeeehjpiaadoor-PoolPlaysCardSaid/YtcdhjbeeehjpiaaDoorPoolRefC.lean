/-
  The reference's pool: Tick.
  Conditions: where its blocks lie.
-/
import Derived.Test.YtcdhjbeeehjpiaaDoorPoolRefB
import Derived.Test.YtcdhjbeeehjpiaaDoorPoolTick
namespace Go.Proofs.YtcdhjbeeehjpiaaDoor.PoolR
open Go.RowKit MapsL ModL RowsK RowsM PoolC
set_option linter.unusedSimpArgs false
set_option linter.unusedVariables false

def vI (l : List Int) : List Value := l.map (Value.int .i64)
theorem vI_len (l : List Int) : (vI l).length = l.length := by simp [vI]
/-- It goes. -/
def goesB (now old : Int) (x : RL) : Bool := !x.busy && decide (old < now - x.at_)
/-- x put in ahead of place k. -/
def putAt (G : List Int) (x : Int) (k : Nat) : List Int := G.take k ++ x :: G.drop k
theorem putAt_len (G : List Int) (x : Int) (k : Nat) : (putAt G x k).length = G.length + 1 := by
  unfold putAt; rw [List.length_append, List.length_take, List.length_cons, List.length_drop]; omega
theorem putAt_full (G : List Int) (x : Int) : putAt G x G.length = G ++ [x] := by simp [putAt]
theorem putAt_step (G : List Int) (x : Int) (j : Nat) (hj : j < G.length) : ((putAt G x (j + 1)).set j x).set (j + 1) G[j] = putAt G x j := by
  unfold putAt
  rw [List.take_succ_eq_append_getElem hj, List.drop_eq_getElem_cons hj, List.append_assoc]
  have hl : (G.take j).length = j := by rw [List.length_take]; omega
  rw [List.set_append_right _ _ (by omega), hl, Nat.sub_self]
  rw [List.set_append_right _ _ (by omega), hl, show j + 1 - j = 1 by omega]
  rfl
theorem putAt_at (G : List Int) (x : Int) (k : Nat) (hk : k ≤ G.length) : (putAt G x k)[k]? = some x := by
  unfold putAt
  have hl : (G.take k).length = k := by rw [List.length_take]; omega
  rw [List.getElem?_append_right (by omega), hl, Nat.sub_self]; rfl
theorem putAt_before (G : List Int) (x : Int) (k : Nat) (hk : k < G.length) : (putAt G x (k + 1))[k]? = some G[k] := by
  unfold putAt
  have hl : (G.take (k + 1)).length = k + 1 := by rw [List.length_take]; omega
  rw [List.getElem?_append_left (by omega), List.getElem?_take, if_pos (by omega), List.getElem?_eq_getElem hk]
theorem putAt_perm (G : List Int) (x : Int) (k : Nat) : (putAt G x k).Perm (G ++ [x]) := by
  unfold putAt
  have h := List.perm_middle (a := x) (l₁ := G.take k) (l₂ := G.drop k)
  rw [List.take_append_drop] at h
  exact h.trans (List.perm_append_singleton x G).symm
theorem putAt_sorted {G : List Int} {x : Int} {k : Nat} (hs : G.Pairwise (· ≤ ·)) (hlo : ∀ y ∈ G.take k, y ≤ x) (hhi : ∀ y ∈ G.drop k, x ≤ y) : (putAt G x k).Pairwise (· ≤ ·) := by
  unfold putAt
  have h2 := hs
  rw [← List.take_append_drop k G] at h2
  obtain ⟨p1, p2, p3⟩ := List.pairwise_append.1 h2
  refine List.pairwise_append.2 ⟨p1, List.pairwise_cons.2 ⟨hhi, p2⟩, fun a ha b hb => ?_⟩
  rcases List.mem_cons.1 hb with rfl | hb
  · exact hlo a ha
  · exact p3 a ha b hb
theorem take_le {G : List Int} {x : Int} {k : Nat} (hs : G.Pairwise (· ≤ ·)) (hk : k ≤ G.length) (h : k = 0 ∨ ∃ j, k = j + 1 ∧ ∃ hj : j < G.length, G[j] ≤ x) : ∀ y ∈ G.take k, y ≤ x := by
  intro y hy
  rcases h with rfl | ⟨j, rfl, hj, hx⟩
  · simp at hy
  · obtain ⟨i, hi, rfl⟩ := List.getElem_of_mem hy
    rw [List.length_take] at hi
    rw [List.getElem_take]
    rcases Nat.lt_or_ge i j with h | h
    · have := List.pairwise_iff_getElem.1 hs i j (by omega) hj h
      omega
    · obtain rfl : i = j := by omega
      exact hx
set_option maxRecDepth 100000 in
set_option maxHeartbeats 4000000 in
theorem rtick_range {w : World} {q : Nat} (now old : Int) (h : ¬ ((0 ≤ now ∧ now ≤ 1000000) ∧ (0 ≤ old ∧ old ≤ 1000000))) :
    Calls Tryd.prog 17 #[.pointer (some ⟨q, 0, none⟩), .int .i64 now, .int .i64 old] w fun e w' => e = .returned (.tuple #[.slice none 0 0, .int .i64 1]) ∧ w = w' := by
  by_cases t1 : now < 0
  · clear h
    go_enter Tryd.func17, Tryd.ntmps17
    go_wp2_with fail
    go_ret2
    exact ⟨rfl, rfl⟩
  · by_cases t2 : 1000000 < now
    · clear h
      go_enter Tryd.func17, Tryd.ntmps17
      go_wp2_with fail
      go_ret2
      exact ⟨rfl, rfl⟩
    · by_cases t3 : old < 0
      · clear h
        go_enter Tryd.func17, Tryd.ntmps17
        go_wp2_with fail
        go_ret2
        exact ⟨rfl, rfl⟩
      · have t4 : 1000000 < old := by omega
        clear h
        go_enter Tryd.func17, Tryd.ntmps17
        go_wp2_with fail
        go_ret2
        exact ⟨rfl, rfl⟩
theorem rtick_state {w : World} {q : Nat} {many last now0 turn : Int} {v : Value} {l : List RL} (h : RefO w q many last now0 turn v l) (now old : Int) (hn : 0 ≤ now ∧ now ≤ 1000000) (ho : 0 ≤ old ∧ old ≤ 1000000) (hl : now < now0) :
    Calls Tryd.prog 17 #[.pointer (some ⟨q, 0, none⟩), .int .i64 now, .int .i64 old] w fun e w' => e = .returned (.tuple #[.slice none 0 0, .int .i64 6]) ∧ w = w' := by
  have t1 : ¬ now < 0 := by omega
  have t2 : ¬ 1000000 < now := by omega
  have t3 : ¬ old < 0 := by omega
  have t4 : ¬ 1000000 < old := by omega
  have k2 := h.c2
  clear h
  go_enter Tryd.func17, Tryd.ntmps17
  go_wp2_with fail
  go_ret2
  exact ⟨rfl, rfl⟩
/-- Between two rounds. -/
structure RTk (w3 W : World) (B : Nat) (gv lv : Value) (G : List Int) (K : List RL) : Prop where
  b : Below w3.heap.size w3 W
  g : RowsL.Own W B 3 gv (vI G)
  k : RowsK.Own encR W B 53 lv K
  ap : ∀ x, gv.ownBlock = some x → lv.ownBlock ≠ some x
section
variable {w3 W W2 : World} {B : Nat} {gv lv v2 : Value} {G : List Int} {K : List RL}
theorem RTk.below (h : RTk w3 W B gv lv G K) (hB : Below W.heap.size W W2) : RTk w3 W2 B gv lv G K :=
  ⟨h.b.trans (hB.mono h.b.size), h.g.of_block (fun k hk => hB.block k (RowsL.Own.lt h.g k hk).2), own_below h.k hB, h.ap⟩
/-- A link is kept. -/
theorem RTk.keep {x : RL} (h : RTk w3 W B gv lv G K) (hBl : B = w3.heap.size) (ho : RowsK.Own encR W2 B 53 v2 (K ++ [x])) (hg : W.grownBy W2 lv.ownBlock) (hl : v2.ownBlock = lv.ownBlock ∨ v2.ownBlock = some W.heap.size) : RTk w3 W2 B gv v2 G (K ++ [x]) := by
  refine ⟨h.b.grown hg (by rw [← hBl]; exact hBl ▸ h.b.size) (fun k hk => by have := (h.k.lt k hk).1; omega), h.g.of_block (fun k hk => hg.block k (RowsL.Own.lt h.g k hk).2 (fun e => h.ap k hk e.symm)), ho, fun k hk e => ?_⟩
  rcases hl with hl | hl
  · rw [hl] at e; exact h.ap k hk e
  · rw [hl] at e; have := (RowsL.Own.lt h.g k hk).2; have := Option.some.inj e; omega
/-- A number is put behind. -/
theorem RTk.gone {x : Int} (h : RTk w3 W B gv lv G K) (hBl : B = w3.heap.size) (ho : RowsL.Own W2 B 3 v2 (vI G ++ [Value.int .i64 x])) (hg : W.grownBy W2 gv.ownBlock) (hl : ∃ g, v2.ownBlock = some g ∧ (gv.ownBlock = some g ∨ W.heap.size = g)) : RTk w3 W2 B v2 lv (putAt G x G.length) K := by
  refine ⟨h.b.grown hg (by rw [← hBl]; exact hBl ▸ h.b.size) (fun k hk => by have := (RowsL.Own.lt h.g k hk).1; omega), ?_, h.k.of_block (fun k hk => hg.block k (h.k.lt k hk).2 (fun e => h.ap k e.symm hk)), fun k hk e => ?_⟩
  · rw [putAt_full]; unfold vI at *; rw [List.map_append]; exact ho
  · obtain ⟨g, h1, h2⟩ := hl
    rw [h1] at hk
    obtain rfl := Option.some.inj hk
    rcases h2 with h2 | h2
    · exact h.ap _ h2 e
    · have := (h.k.lt _ e).2; omega
/-- A number is stored. -/
theorem RTk.store {g n c : Nat} (h : RTk w3 W B (.slice (some ⟨g, 0, none⟩) n c) lv G K) (hBl : B = w3.heap.size) (hn : n = G.length) (j : Nat) (hj : j < G.length) (y : Int) : RTk w3 (W.setCell ⟨g, j, none⟩ (.int .i64 y)) B (.slice (some ⟨g, 0, none⟩) n c) lv (G.set j y) K := by
  have hg := RowsL.Own.lt h.g g rfl
  refine ⟨h.b.setCell (by show w3.heap.size ≤ g; omega) _, ?_, h.k.setCell _ _ (fun e => h.ap g rfl e), h.ap⟩
  have := h.g.store (j := j) (u := .int .i64 y) (by rw [vI_len]; exact hn) (by rw [vI_len]; exact hj)
  unfold vI at *
  rw [List.map_set]; exact this
end
def RTickP (w : World) (q : Nat) (many last now old turn : Int) (v : Value) (l : List RL) (e : Ending) (w' : World) : Prop :=
  ∃ ga gn gc v' G, e = .returned (.tuple #[.slice ga gn gc, .int .i64 0]) ∧ G.Pairwise (· ≤ ·) ∧ G.Perm ((l.filter (goesB now old)).map (·.id)) ∧ RowsL.Own w' w.heap.size 3 (.slice ga gn gc) (vI G) ∧
    RefO w' q many last now turn v' (l.filter fun x => !goesB now old x) ∧ NearR w v v' ∧ (∀ k, ga.map (·.block) = some k → v'.ownBlock ≠ some k) ∧ Mod (fun k => k = q) w w'
set_option maxRecDepth 100000 in
set_option maxHeartbeats 16000000 in
theorem rtick_ok {w : World} {q : Nat} {many last now0 turn : Int} {v : Value} {l : List RL} (h : RefO w q many last now0 turn v l) (now old : Int) (hn : 0 ≤ now ∧ now ≤ 1000000) (ho : 0 ≤ old ∧ old ≤ 1000000) (hl : now0 ≤ now) (hL : l.length ≤ 1000) (hx : ∀ x ∈ l, 0 ≤ x.at_ ∧ x.at_ ≤ 1000000) :
    Calls Tryd.prog 17 #[.pointer (some ⟨q, 0, none⟩), .int .i64 now, .int .i64 old] w (RTickP w q many last now old turn v l) := by
  obtain ⟨a, cap, rfl, hc1, hc2, _⟩ := h.own.slice
  have t1 : ¬ now < 0 := by omega
  have t2 : ¬ 1000000 < now := by omega
  have t3 : ¬ old < 0 := by omega
  have t4 : ¬ 1000000 < old := by omega
  have t5 : ¬ now < now0 := by omega
  have k2 := h.c2
  have f2 := h.thaw 2
  have hqlt := h.lt
  have H3 := Lib.hid (h.setNow now)
  have HX := Lib.hid hx
  obtain ⟨L, hLL⟩ : ∃ L, l.length = L := ⟨_, rfl⟩
  have HL := Lib.hid hLL
  clear h hx
  go_enter Tryd.func17, Tryd.ntmps17
  go_wp2_with fail
  have hs3 : (w.setCell ⟨q, 2, none⟩ (.int .i64 now)).heap.size = w.heap.size := World.size_setCell _ _ _
  have HM3 := Lib.hid ((Mod.refl (fun k => k = q) w).setCell (p := ⟨q, 2, none⟩) (fun _ => rfl) (.int .i64 now))
  generalize w.setCell ⟨q, 2, none⟩ (.int .i64 now) = w3 at *
  have H0 : Hid (RTk w3 w3 w3.heap.size (.slice none 0 0) (.slice none 0 0) [] []) := ⟨Below.refl _ _, RowsL.Own.nil _ _ _, RowsK.Own.nil _ _ _ _, fun x hx => by cases hx⟩
  obtain ⟨B, hBl⟩ : ∃ B, B = w3.heap.size := ⟨_, rfl⟩
  rw [← hBl] at H0
  have HBL := Lib.hid hBl
  have hB0 : B ≤ w3.heap.size := by omega
  have hB1 : w3.heap.size ≤ B := by omega
  have hB2 : w.heap.size ≤ B := by omega
  have H3' := H3.out
  have c34 := H3'.c4
  have hq3 := H3'.lt
  rw [hLL] at c34
  clear hBl hs3 k2 f2 t1 t2 t3 t4 t5 H3' hLL
  go_loopw [8, 9, 10] (fun gv lv iv wr => ∃ (i : Nat) (ga ka : Option Addr) (gn gc kn kc : Nat) (G : List Int) (K : List RL), gv = .slice ga gn gc ∧ lv = .slice ka kn kc ∧ iv = .int .i64 i ∧ i ≤ L ∧ Hid (RTk w3 wr B (.slice ga gn gc) (.slice ka kn kc) G K ∧ G.Pairwise (· ≤ ·) ∧ G.Perm (((l.take i).filter (goesB now old)).map (·.id)) ∧ K = (l.take i).filter fun x => !goesB now old x)) (fun _ _ iv _ => L - (intOf iv).toNat)
  case atStart => exact ⟨0, none, none, 0, 0, 0, 0, [], [], rfl, rfl, rfl, by omega, H0.out, List.Pairwise.nil, List.Perm.nil, rfl⟩
  case round =>
    obtain ⟨i, ga, ka, gn, gc, kn, kc, G, K, rfl, rfl, rfl, hi, HS⟩ := hrel
    have hbw := HS.out.1.b
    have hsz := hbw.size
    have hcr := (hbw.cell (p := ⟨q, 4, none⟩) hq3).trans c34
    by_cases hlt : i < L
    · have hil : i < l.length := by rw [HL.out]; exact hlt
      obtain ⟨g, c, e, -, hgs, -, -, d0, d1, d2, d3, d4⟩ := H3.out.entry hil
      obtain ⟨rfl, _, _⟩ := Value.slice.inj e
      have y0 := (hbw.cell (p := ⟨g, i * 5, none⟩) hgs).trans d0
      have y1 := (hbw.cell (p := ⟨g, i * 5 + 1, none⟩) hgs).trans d1
      have y2 := (hbw.cell (p := ⟨g, i * 5 + 2, none⟩) hgs).trans d2
      have y3 := (hbw.cell (p := ⟨g, i * 5 + 3, none⟩) hgs).trans d3
      have y4 := (hbw.cell (p := ⟨g, i * 5 + 4, none⟩) hgs).trans d4
      have hxb := HX.out (l.getD i default) (by rw [List.getD_eq_getElem?_getD, List.getElem?_eq_getElem hil]; exact List.getElem_mem hil)
      have hst : l.take (i + 1) = l.take i ++ [l.getD i default] := by rw [List.take_succ_eq_append_getElem hil, List.getD_eq_getElem?_getD, List.getElem?_eq_getElem hil]; rfl
      obtain ⟨⟨xi, xt, xb, xa, xu⟩, hxx⟩ : ∃ y, l.getD i default = y := ⟨_, rfl⟩
      rw [hxx] at y0 y1 y2 y3 y4 hxb hst
      simp only at y0 y1 y2 y3 y4 hxb
      obtain ⟨x1, x2⟩ := hxb
      have HST := Lib.hid hst
      have i0 : (0 : Int) ≤ (i : Int) := by omega
      have i1 : (i : Int) < (L : Int) := by omega
      have hgn : gn = G.length := by
        obtain ⟨_, _, e, _⟩ := HS.out.1.g.slice
        simp only [Value.slice.injEq, vI_len] at e
        exact e.2.1
      have hGl : G.length ≤ 1000 := by
        have h1 := HS.out.2.2.1.length_eq
        rw [List.length_map] at h1
        have h2 := List.length_filter_le (goesB now old) (l.take i)
        rw [List.length_take] at h2
        omega
      have hKl : K.length ≤ 1000 := by
        rw [HS.out.2.2.2]
        have h2 := List.length_filter_le (fun x => !goesB now old x) (l.take i)
        rw [List.length_take] at h2
        omega
      have HGN := Lib.hid hgn
      have HS1 := Lib.hid (HS.out.1.below ((Below.refl wr.heap.size wr).alloc (Nat.le_refl _) (.cells #[.int .i64 xi, .string xt, .bool xb, .int .i64 xa, .int .i64 xu] 53)))
      clear hst hxx d0 d1 d2 d3 d4 e hbw hgn
      have keep : Hid (goesB now old ⟨xi, xt, xb, xa, xu⟩ = false → ∀ (v' : Value) (w' : World), RowsK.Own encR w' B 53 v' (K ++ [⟨xi, xt, xb, xa, xu⟩]) → ((wr.alloc (.cells #[.int .i64 xi, .string xt, .bool xb, .int .i64 xa, .int .i64 xu] 53)).alloc (.cells #[.int .i64 xi, .string xt, .bool xb, .int .i64 xa, .int .i64 xu] 53)).grownBy w' (Value.slice ka kn kc).ownBlock →
          (v'.ownBlock = (Value.slice ka kn kc).ownBlock ∨ v'.ownBlock = some ((wr.alloc (.cells #[.int .i64 xi, .string xt, .bool xb, .int .i64 xa, .int .i64 xu] 53)).alloc (.cells #[.int .i64 xi, .string xt, .bool xb, .int .i64 xa, .int .i64 xu] 53)).heap.size) → ∃ a' n' c', v' = .slice a' n' c' ∧ (RTk w3 w' B (.slice ga gn gc) (.slice a' n' c') G (K ++ [⟨xi, xt, xb, xa, xu⟩]) ∧ G.Pairwise (· ≤ ·) ∧ G.Perm (((l.take (i + 1)).filter (goesB now old)).map (·.id)) ∧ K ++ [⟨xi, xt, xb, xa, xu⟩] = (l.take (i + 1)).filter fun x => !goesB now old x)) := fun hgo v' w' h1 h2 h3 => by
        obtain ⟨a', n', c', rfl⟩ := own_form h1
        refine ⟨a', n', c', rfl, (HS1.out.below ((Below.refl _ _).alloc (Nat.le_refl _) _)).keep HBL.out h1 h2 h3, HS.out.2.1, ?_, ?_⟩
        · rw [HST.out, List.filter_append, List.filter_cons, hgo]; simpa using HS.out.2.2.1
        · rw [HST.out, List.filter_append, List.filter_cons, hgo, HS.out.2.2.2]; rfl
      have HLA : Hid (K.length + [(⟨xi, xt, xb, xa, xu⟩ : RL)].length < 274877906944) := (by show _ < _; simp; omega)
      have hbr : B ≤ wr.heap.size := by omega
      have hlit := (RowsK.Own.lit (E := encR) (e := 53) (b := (wr.alloc (.cells #[.int .i64 xi, .string xt, .bool xb, .int .i64 xa, .int .i64 xu] 53)).heap.size) (wr.alloc (.cells #[.int .i64 xi, .string xt, .bool xb, .int .i64 xa, .int .i64 xu] 53)) #[.int .i64 xi, .string xt, .bool xb, .int .i64 xa, .int .i64 xu] [⟨xi, xt, xb, xa, xu⟩] (Nat.le_refl _) (by simp) rfl).at_
      rw [show (wr.alloc (.cells #[.int .i64 xi, .string xt, .bool xb, .int .i64 xa, .int .i64 xu] 53)).heap.size = wr.heap.size + 1 by simp] at hlit
      have HLIT := Lib.hid hlit
      have HBR : Hid (B ≤ ((wr.alloc (.cells #[.int .i64 xi, .string xt, .bool xb, .int .i64 xa, .int .i64 xu] 53)).alloc (.cells #[.int .i64 xi, .string xt, .bool xb, .int .i64 xa, .int .i64 xu] 53)).heap.size) := (by show B ≤ _; simp; omega)
      have HKO := Lib.hid (own_below HS1.out.k ((Below.refl _ _).alloc (Nat.le_refl _) (.cells #[.int .i64 xi, .string xt, .bool xb, .int .i64 xa, .int .i64 xu] 53)))
      clear hlit
      by_cases hb : xb = true
      · subst hb
        have hgo : goesB now old ⟨xi, xt, true, xa, xu⟩ = false := rfl
        have KEEP := Lib.hid (keep.out hgo)
        clear keep hgo
        go_wp2_with (at_builtin; refine RowsK.wpList_append elemR rfl _ _ rfl B _ rfl HKO.out _ _ rfl HLIT.out HLA.out HBR.out ?_; intro v' w' h1 hB' h2 h3; obtain ⟨a', n', c', rfl, hst⟩ := KEEP.out v' w' h1 h2 h3; have HST2 := Lib.hid hst; clear h1 hB' h2 h3 hst)
        refine ⟨⟨i + 1, ga, a', gn, gc, n', c', G, _, rfl, rfl, (by go_num), by omega, HST2.out⟩, by simp [intOf]; omega⟩
      · obtain rfl : xb = false := by cases xb <;> simp_all
        by_cases hk : now - xa ≤ old
        · have hgo : goesB now old ⟨xi, xt, false, xa, xu⟩ = false := by
            show (!false && decide (old < now - xa)) = false
            rw [decide_eq_false (by omega)]; rfl
          have KEEP := Lib.hid (keep.out hgo)
          clear keep hgo
          go_wp2_with (at_builtin; refine RowsK.wpList_append elemR rfl _ _ rfl B _ rfl HKO.out _ _ rfl HLIT.out HLA.out HBR.out ?_; intro v' w' h1 hB' h2 h3; obtain ⟨a', n', c', rfl, hst⟩ := KEEP.out v' w' h1 h2 h3; have HST2 := Lib.hid hst; clear h1 hB' h2 h3 hst)
          refine ⟨⟨i + 1, ga, a', gn, gc, n', c', G, _, rfl, rfl, (by go_num), by omega, HST2.out⟩, by simp [intOf]; omega⟩
        · have hgo : goesB now old ⟨xi, xt, false, xa, xu⟩ = true := by
            show (!false && decide (old < now - xa)) = true
            rw [decide_eq_true (by omega)]; rfl
          have hk2 : old < now - xa := by omega
          have HGO := Lib.hid hgo
          clear keep hgo HLIT HLA HBR HKO
          have HGA : Hid (∀ (v2 : Value) (w2 : World), RowsL.Own w2 B 3 v2 (vI G ++ [Value.int .i64 xi]) → ((wr.alloc (.cells #[.int .i64 xi, .string xt, .bool false, .int .i64 xa, .int .i64 xu] 53)).alloc (.cells #[Value.int .i64 xi] 3)).grownBy w2 (Value.slice ga gn gc).ownBlock → (∃ g, v2.ownBlock = some g ∧ ((Value.slice ga gn gc).ownBlock = some g ∨ ((wr.alloc (.cells #[.int .i64 xi, .string xt, .bool false, .int .i64 xa, .int .i64 xu] 53)).alloc (.cells #[Value.int .i64 xi] 3)).heap.size = g)) →
              ∃ gb c2, v2 = .slice (some ⟨gb, 0, none⟩) (gn + 1) c2 ∧ RTk w3 w2 B (.slice (some ⟨gb, 0, none⟩) (gn + 1) c2) (.slice ka kn kc) (putAt G xi gn) K ∧ gn + 1 ≤ c2) := fun v2 w2 h1 h2 h3 => by
            have h4 := (HS1.out.below ((Below.refl _ _).alloc (Nat.le_refl _) _)).gone HBL.out h1 h2 h3
            rw [← HGN.out] at h4
            obtain ⟨gb, c2, rfl, hcc, _⟩ := h4.g.slice1 (gn + 1) (by rw [vI_len, putAt_len, HGN.out]) (by omega)
            exact ⟨gb, c2, rfl, h4, hcc⟩
          have HVL : Hid ((vI G).length < 4398046511000) := (by show _ < _; rw [vI_len]; omega)
          have HBR : Hid (B ≤ ((wr.alloc (.cells #[.int .i64 xi, .string xt, .bool false, .int .i64 xa, .int .i64 xu] 53)).alloc (.cells #[Value.int .i64 xi] 3)).heap.size) := (by show B ≤ _; simp; omega)
          have HGW := Lib.hid ((HS1.out.g).alloc (.cells #[Value.int .i64 xi] 3))
          have HGS := Lib.hid HS.out.2.1
          have HCY : Hid (((wr.alloc (.cells #[.int .i64 xi, .string xt, .bool false, .int .i64 xa, .int .i64 xu] 53)).alloc (.cells #[Value.int .i64 xi] 3)).cell? ⟨wr.heap.size + 1, 0, none⟩ = some (Value.int .i64 xi)) := (by show _ = _; simp)
          go_upto_region 16 with (at_builtin; refine RowsL.wpList_append1 PoolC.elemI rfl _ _ rfl B _ _ rfl HGW.out (wr.heap.size + 1) 1 (.int .i64 xi) rfl HCY.out rfl HVL.out HBR.out ?_; intro v2 w2 h1 hB' h2 h3; obtain ⟨gb, c2, rfl, hst, hc2⟩ := HGA.out v2 w2 h1 h2 h3; have HT2 := Lib.hid hst; clear h1 hB' h2 h3 hst)
          clear HS1 HGA HVL HBR HGW HCY y0 y1 y2 y3 y4 hcr
          have HHS := Lib.hid HS.out
          clear HS
          obtain ⟨wo, hwo⟩ : ∃ wo : World, wo = wr := ⟨_, rfl⟩
          subst hwo
          go_loopw [12] (fun kv wr => ∃ k : Nat, kv = .int .i64 k ∧ k ≤ gn ∧ Hid (RTk w3 wr B (.slice (some ⟨gb, 0, none⟩) (gn + 1) c2) (.slice ka kn kc) (putAt G xi k) K ∧ ∀ y ∈ G.drop k, xi ≤ y)) (fun kv _ => (intOf kv).toNat)
          case atStart => exact ⟨gn, rfl, Nat.le_refl _, HT2.out, fun y hy => by rw [List.drop_of_length_le (by rw [HGN.out]; exact Nat.le_refl _)] at hy; cases hy⟩
          case round =>
            obtain ⟨k, rfl, hk3, HI⟩ := hrel
            have HEND : Hid ((k = 0 ∨ ∃ j, k = j + 1 ∧ ∃ hj : j < G.length, G[j] ≤ xi) → ∀ W, Below wr.heap.size wr W → RTk w3 W B (.slice (some ⟨gb, 0, none⟩) (gn + 1) c2) (.slice ka kn kc) (putAt G xi k) K ∧ (putAt G xi k).Pairwise (· ≤ ·) ∧ (putAt G xi k).Perm (((l.take (i + 1)).filter (goesB now old)).map (·.id)) ∧ K = (l.take (i + 1)).filter fun x => !goesB now old x) := fun he W hW => by
              refine ⟨HI.out.1.below hW, putAt_sorted HGS.out (take_le HGS.out (by rw [← HGN.out]; exact hk3) he) HI.out.2, ?_, ?_⟩
              · rw [HST.out, List.filter_append, List.filter_cons, HGO.out, List.map_append]
                exact (putAt_perm G xi k).trans (HHS.out.2.2.1.append_right _)
              · rw [HST.out, List.filter_append, List.filter_cons, HGO.out, HHS.out.2.2.2]; simp
            have hbr2 : wr.heap.size ≤ wr.heap.size := Nat.le_refl _
            have HDW : Hid (∀ nq, Below wr.heap.size wr (wr.drewN nq)) := fun nq => below_dr (Below.refl _ _) nq
            rcases Nat.eq_zero_or_pos k with hk0 | hk0
            · subst hk0
              have z0 : ¬ ((0 : Int) < 0) := by omega
              have z1 : decide ((0 : Int) < 0) = false := decide_eq_false z0
              have z2 : decide ((0 : Nat) < 0) = false := decide_eq_false (by omega)
              go_wp2_with fail
              go_quiet (fail)
              go_wp2_with fail
              exact ⟨⟨i + 1, _, ka, gn + 1, c2, kn, kc, _, K, rfl, rfl, (by go_num), by omega, HEND.out (by simp) _ (HDW.out nq)⟩, by simp [intOf]; omega⟩
            · obtain ⟨j, rfl⟩ : ∃ j, k = j + 1 := ⟨k - 1, by omega⟩
              have hjG : j < G.length := by rw [← HGN.out]; omega
              obtain ⟨gb2, cap2, e2, _, _, _, _, hcell, hfrz⟩ := HI.out.1.g.slice1 (gn + 1) (by rw [vI_len, putAt_len, HGN.out]) (by omega)
              obtain rfl : gb = gb2 := by simp only [Value.slice.injEq, Option.some.injEq, Addr.mk.injEq, and_true] at e2; exact e2.1
              have g0 : wr.cell? ⟨gb, j, none⟩ = some (.int .i64 G[j]) := by
                rw [hcell j (by omega)]; unfold vI; rw [List.getElem?_map, putAt_before G xi j hjG]; rfl
              have g1 : wr.cell? ⟨gb, j + 1, none⟩ = some (.int .i64 xi) := by
                rw [hcell (j + 1) (by omega)]; unfold vI; rw [List.getElem?_map, putAt_at G xi (j + 1) (by omega)]; rfl
              have HSW : Hid (xi < G[j] → ∀ nq, RTk w3 (((wr.drewN nq).setCell ⟨gb, j, none⟩ (.int .i64 xi)).setCell ⟨gb, j + 1, none⟩ (.int .i64 G[j])) B (.slice (some ⟨gb, 0, none⟩) (gn + 1) c2) (.slice ka kn kc) (putAt G xi j) K ∧ ∀ y ∈ G.drop j, xi ≤ y) := fun hlt nq => by
                have h1 := ((HI.out.1.below (HDW.out nq)).store HBL.out (by rw [putAt_len, HGN.out]) j (by rw [putAt_len]; omega) xi).store HBL.out (by rw [List.length_set, putAt_len, HGN.out]) (j + 1) (by rw [List.length_set, putAt_len]; omega) G[j]
                rw [putAt_step G xi j hjG] at h1
                refine ⟨h1, fun y hy => ?_⟩
                rw [List.drop_eq_getElem_cons hjG] at hy
                rcases List.mem_cons.1 hy with rfl | hy
                · omega
                · exact HI.out.2 y hy
              have HNS : Hid (G[j] ≤ xi → ∀ W, Below wr.heap.size wr W → RTk w3 W B (.slice (some ⟨gb, 0, none⟩) (gn + 1) c2) (.slice ka kn kc) (putAt G xi (j + 1)) K ∧ (putAt G xi (j + 1)).Pairwise (· ≤ ·) ∧ (putAt G xi (j + 1)).Perm (((l.take (i + 1)).filter (goesB now old)).map (·.id)) ∧ K = (l.take (i + 1)).filter fun x => !goesB now old x) := fun hle => HEND.out (.inr ⟨j, rfl, hjG, hle⟩)
              obtain ⟨y, hy⟩ : ∃ y, G[j] = y := ⟨_, rfl⟩
              rw [hy] at g0 HSW HNS
              clear hcell hy e2 HEND HI hk0
              have z1 : decide ((0 : Int) < (j : Int) + 1) = true := decide_eq_true (by omega)
              have z2 : decide (0 < j + 1) = true := decide_eq_true (by omega)
              have hwr : IntKind.i64.wrap ((j : Int) + 1 - 1) = (j : Int) := by rw [show (j : Int) + 1 - 1 = (j : Int) by omega]; exact IntWalk.i64_in _ (by omega)
              have j0 : (0 : Int) ≤ (j : Int) := by omega
              have j1 : (j : Int) < (gn : Int) + 1 := by omega
              have j2 : (0 : Int) ≤ (j : Int) + 1 := by omega
              have j3 : (j : Int) + 1 < (gn : Int) + 1 := by omega
              have j4 : ((j : Int) + 1).toNat = j + 1 := by omega
              by_cases hyx : xi < y
              · have z3 : decide (xi < y) = true := decide_eq_true hyx
                have HSW2 := Lib.hid (HSW.out hyx)
                clear HSW HNS
                go_wp2_with fail
                go_quiet (fail)
                go_wp2_with fail
                go_roundw
                case measure => simp [intOf]
                case rel => exact ⟨j, (by go_num), by omega, HSW2.out nq⟩
              · have z3 : decide (xi < y) = false := decide_eq_false hyx
                have HNS2 := Lib.hid (HNS.out (by omega))
                clear HSW HNS
                go_wp2_with fail
                go_quiet (fail)
                go_wp2_with fail
                exact ⟨⟨i + 1, _, ka, gn + 1, c2, kn, kc, _, K, rfl, rfl, (by go_num), by omega, HNS2.out _ (HDW.out nq)⟩, by simp [intOf]; omega⟩
    · obtain rfl : L = i := by omega
      have hN : ¬ ((L : Int) < (L : Int)) := by omega
      have hfr := (hbw.frozen (p := ⟨q, 4, none⟩) hq3).trans (H3.out.thaw 4)
      go_wp2_with fail
      go_ret2
      have e1 : l.take L = l := by rw [← HL.out]; exact List.take_length
      obtain ⟨hT, hs, hp, hK⟩ := HS.out
      rw [e1] at hp hK
      have hO := (H3.out.below hbw).row (w' := wr) (v2 := .slice ka kn kc) (l2 := K) rfl (RowsK.Own.mono hT.k (by omega))
      rw [hK] at hO
      refine ⟨ga, gn, gc, _, G, rfl, hs, hp, (RowsL.Own.mono hT.g hB2).setCell _ _ (fun e => by have := (RowsL.Own.lt hT.g q e).1; omega), hO, .inr fun k hk => by have := (hT.k.lt k hk).1; omega, fun k hk e => hT.ap k (by cases ga <;> exact hk) e, (HM3.out.below hbw (fun k h1 h2 => by omega)).setCell (p := ⟨q, 4, none⟩) (fun _ => rfl) _⟩
end Go.Proofs.YtcdhjbeeehjpiaaDoor.PoolR
