/-
  The reference's row of those who may want: Drop.
  Conditions: where its blocks lie.
-/
import Derived.Test.YtfgplghjgjnggaaDoorPickRefC
namespace Go.Proofs.YtfgplghjgjnggaaDoor.PickR
open Go.RowKit MapsL ModL RowsK PickC
set_option linter.unusedSimpArgs false
set_option linter.unusedVariables false

theorem at_drop {α : Type} {F : Enc α} {w : World} {b g n cap : Nat} {e : TypeId} {xs : List α} (h : Own F w b e (.slice (some ⟨g, 0, none⟩) n cap) xs) (m : Nat) (hm : m ≤ xs.length) : RowsK.At F w (.slice (some ⟨g, m * F.k, none⟩) (n - m) (cap - m)) (xs.drop m) := by
  obtain ⟨a, c, he, h1, h2, _, _⟩ := h.slice
  simp only [Value.slice.injEq] at he
  obtain ⟨_, rfl, rfl⟩ := he
  refine ⟨_, _, by rw [List.length_drop], by rw [List.length_drop]; omega, by omega, by simp, fun i hi => ?_⟩
  rw [List.length_drop] at hi
  obtain ⟨g', cap', e2, _, _, _, hg, hc⟩ := h.slice1 xs.length rfl (by omega)
  simp only [Value.slice.injEq, Option.some.injEq, Addr.mk.injEq, and_true, true_and] at e2
  obtain ⟨rfl, rfl⟩ := e2
  refine ⟨g, m * F.k, rfl, hg, fun j hj => ?_⟩
  have := hc (m + i) (by omega) j hj
  rw [show m * F.k + (i * F.k + j) = (m + i) * F.k + j by rw [Nat.add_mul]; omega, this, List.getElem_drop]
theorem at_empty {α : Type} {F : Enc α} {w : World} (g o : Nat) : RowsK.At F w (.slice (some ⟨g, o, none⟩) 0 0) ([] : List α) := ⟨_, 0, rfl, by simp, by simp, by simp, fun i hi => absurd hi (by simp)⟩
theorem rdrop_none {w : World} {q : Nat} {v : Value} {l : List Ent} (h : RefP w q v l) (id : Int) (hid : -9223372036854775808 ≤ id ∧ id ≤ 9223372036854775807) (hno : ∀ x ∈ l, x.id ≠ id) :
    Calls Tryd.prog 10 #[.pointer (some ⟨q, 0, none⟩), .int .i64 id] w fun e w' => e = .returned (.int .i64 5) ∧ w = w' := by
  have HA := Lib.hid (at_none h id hid hno)
  clear h
  go_enter Tryd.func10, Tryd.ntmps10
  go_wp2_with (go_at_call 27; (with_reducible refine HA.out.mono ?_); rintro e w1 ⟨rfl, rfl⟩)
  go_ret
  exact ⟨rfl, rfl⟩
set_option maxRecDepth 100000 in
set_option maxHeartbeats 4000000 in
theorem rdrop_some {w : World} {q : Nat} {v : Value} {l : List Ent} (h : RefP w q v l) (id : Int) (hid : -9223372036854775808 ≤ id ∧ id ≤ 9223372036854775807) (n : Nat) (hU : ∀ m y, l[m]? = some y → y.id = id → m = n) (x : Ent) (hn : l[n]? = some x) (hx : x.id = id) (hlen : l.length ≤ 1000000) :
    Calls Tryd.prog 10 #[.pointer (some ⟨q, 0, none⟩), .int .i64 id] w fun e w' => ∃ v', e = .returned (.int .i64 0) ∧ RefP w' q v' (l.eraseIdx n) ∧ Mod (fun b => b = q) w w' ∧ (v'.ownBlock = none ∨ ∃ g, v'.ownBlock = some g ∧ w.heap.size ≤ g) := by
  have HA := Lib.hid (at_one h id hid n hU x hn hx)
  have HR := Lib.hid h
  have hc0 := h.c0
  have hlt := h.lt
  obtain ⟨g, cap, rfl, hg, hg2, hnl, _⟩ := h.entry hn
  obtain ⟨a9, c9, e9, hcap1, hcap2, _⟩ := h.own.slice
  simp only [Value.slice.injEq] at e9
  obtain ⟨rfl, _, rfl⟩ := e9
  have HT := Lib.hid (h.own.cut n (by omega) (by simp)).at_
  have HD := Lib.hid (at_drop h.own (n + 1) (by omega))
  obtain ⟨L, hL⟩ : ∃ L, l.length = L := ⟨_, rfl⟩
  rw [hL] at hnl hc0 hcap1 hlen HD
  have HL := Lib.hid hL
  have hnL : (n : Int) < (L : Int) := by omega
  have hn0 : (0 : Int) ≤ (n : Int) := by omega
  have hn00 : ¬ (n : Int) < 0 := by omega
  have hnc : (n : Int) ≤ (cap : Int) := by omega
  have hnc2 : (n : Int) + 1 ≤ (L : Int) := by omega
  have hn02 : (0 : Int) ≤ (n : Int) + 1 := by omega
  have hlc : (L : Int) ≤ (cap : Int) := by omega
  have HAP1 : Hid (([] : List Ent).length + (l.take n).length < 274877906944) := (by show _ < _; simp; omega)
  have HAP2 : Hid ((([] : List Ent) ++ l.take n).length + (l.drop (n + 1)).length < 274877906944) := (by show _ < _; simp; omega)
  clear h hL hU hn hx
  by_cases hce : cap = n + 1
  · subst hce
    have HE : Hid (RowsK.At E w (.slice (some ⟨g, 0, none⟩) 0 0) (l.drop (n + 1))) := (by
      show RowsK.At _ _ _ _
      rw [List.drop_of_length_le (by rw [HL.out]; omega)]
      exact at_empty _ _)
    go_enter Tryd.func10, Tryd.ntmps10
    go_wp2_with (first
      | (go_at_call 27; (with_reducible refine HA.out.mono ?_); rintro e w1 ⟨rfl, rfl⟩)
      | (at_builtin; refine RowsK.wpList_append elem rfl _ _ rfl (q + 1) _ rfl (Own.nil E _ _ _) _ _ rfl HT.out HAP1.out (by omega) ?_; intro v1 w1 ho1 hB1 hg1 hat1; have hg1' : w.grownBy w1 none := hg1; have hat1' : v1.ownBlock = none ∨ v1.ownBlock = some w.heap.size := hat1; have hBB := (Below.refl w.heap.size w).grown hg1' (Nat.le_refl _) (fun k hk => by cases hk); obtain ⟨a1, n1, c1, rfl⟩ := own_form ho1; have HO1 := Lib.hid ho1; have HD1 := Lib.hid (HE.out.old hBB); have HR1 := Lib.hid (HR.out.below hBB); have hc1 := HR1.out.c0; rw [HL.out] at hc1; have hlt1 := HR1.out.lt; have HA1 := Lib.hid hat1'; clear hg1 hg1' hat1 hat1' ho1)
      | (at_builtin; refine RowsK.wpList_append elem rfl _ _ rfl (q + 1) _ rfl HO1.out _ _ rfl HD1.out HAP2.out (by omega) ?_; intro v2 w2 ho2 hB2 hg2' hat2; obtain ⟨a2, n2, c2, rfl⟩ := own_form ho2; have hc2 := (hB2.cell (p := ⟨q, 0, none⟩) (Nat.lt_succ_self _)).trans hc1; have hf2 := (hB2.frozen (p := ⟨q, 0, none⟩) (Nat.lt_succ_self _)).trans HR1.out.f0; have HO2 := Lib.hid ho2; have HG2 := Lib.hid hg2'; have HA2 := Lib.hid hat2; clear hg2' hat2 ho2))
    go_ret
    have hA1 := HA1.out
    have hA2 : (Value.slice a2 n2 c2).ownBlock = (Value.slice a1 n1 c1).ownBlock ∨ (Value.slice a2 n2 c2).ownBlock = some w1.heap.size := HA2.out
    have hG2 : w1.grownBy w2 (Value.slice a1 n1 c1).ownBlock := HG2.out
    have hsz := hBB.size
    have hne : (Value.slice a2 n2 c2).ownBlock ≠ some q := fun e => by have := (HO2.out.lt q e).1; omega
    refine ⟨_, rfl, ⟨World.cell?_setCell_same _ _ _ hc2, by simp [go_sem, hf2], ?_⟩, ?_, ?_⟩
    · have h := HO2.out.setCell ⟨q, 0, none⟩ (.slice a2 n2 c2) hne
      rw [List.nil_append, ← List.eraseIdx_eq_take_drop_succ] at h
      exact h
    · refine Mod.setCell (S := fun b => b = q) ?_ (fun _ => rfl) _
      refine Mod.grown (Mod.ofBelow hBB (fun k hk hk2 => by omega)) hG2 (fun k hk hk2 => ?_)
      rcases hA1 with h1 | h1
      · rw [h1] at hk; cases hk
      · rw [h1] at hk; have := Option.some.inj hk; omega
    · rcases hA2 with h2 | h2
      · rcases hA1 with h1 | h1
        · exact .inl (h2.trans h1)
        · exact .inr ⟨_, h2.trans h1, Nat.le_refl _⟩
      · exact .inr ⟨_, h2, hsz⟩
  · have hcl : ¬ cap ≤ n + 1 := by omega
    go_enter Tryd.func10, Tryd.ntmps10
    go_wp2_with (first
      | (go_at_call 27; (with_reducible refine HA.out.mono ?_); rintro e w1 ⟨rfl, rfl⟩)
      | (at_builtin; refine RowsK.wpList_append elem rfl _ _ rfl (q + 1) _ rfl (Own.nil E _ _ _) _ _ rfl HT.out HAP1.out (by omega) ?_; intro v1 w1 ho1 hB1 hg1 hat1; have hg1' : w.grownBy w1 none := hg1; have hat1' : v1.ownBlock = none ∨ v1.ownBlock = some w.heap.size := hat1; have hBB := (Below.refl w.heap.size w).grown hg1' (Nat.le_refl _) (fun k hk => by cases hk); obtain ⟨a1, n1, c1, rfl⟩ := own_form ho1; have HO1 := Lib.hid ho1; have HD1 := Lib.hid (HD.out.old hBB); have HR1 := Lib.hid (HR.out.below hBB); have hc1 := HR1.out.c0; rw [HL.out] at hc1; have hlt1 := HR1.out.lt; have HA1 := Lib.hid hat1'; clear hg1 hg1' hat1 hat1' ho1)
      | (at_builtin; refine RowsK.wpList_append elem rfl _ _ rfl (q + 1) _ rfl HO1.out _ _ rfl HD1.out HAP2.out (by omega) ?_; intro v2 w2 ho2 hB2 hg2' hat2; obtain ⟨a2, n2, c2, rfl⟩ := own_form ho2; have hc2 := (hB2.cell (p := ⟨q, 0, none⟩) (Nat.lt_succ_self _)).trans hc1; have hf2 := (hB2.frozen (p := ⟨q, 0, none⟩) (Nat.lt_succ_self _)).trans HR1.out.f0; have HO2 := Lib.hid ho2; have HG2 := Lib.hid hg2'; have HA2 := Lib.hid hat2; clear hg2' hat2 ho2))
    go_ret
    have hA1 := HA1.out
    have hA2 : (Value.slice a2 n2 c2).ownBlock = (Value.slice a1 n1 c1).ownBlock ∨ (Value.slice a2 n2 c2).ownBlock = some w1.heap.size := HA2.out
    have hG2 : w1.grownBy w2 (Value.slice a1 n1 c1).ownBlock := HG2.out
    have hsz := hBB.size
    have hne : (Value.slice a2 n2 c2).ownBlock ≠ some q := fun e => by have := (HO2.out.lt q e).1; omega
    refine ⟨_, rfl, ⟨World.cell?_setCell_same _ _ _ hc2, by simp [go_sem, hf2], ?_⟩, ?_, ?_⟩
    · have h := HO2.out.setCell ⟨q, 0, none⟩ (.slice a2 n2 c2) hne
      rw [List.nil_append, ← List.eraseIdx_eq_take_drop_succ] at h
      exact h
    · refine Mod.setCell (S := fun b => b = q) ?_ (fun _ => rfl) _
      refine Mod.grown (Mod.ofBelow hBB (fun k hk hk2 => by omega)) hG2 (fun k hk hk2 => ?_)
      rcases hA1 with h1 | h1
      · rw [h1] at hk; cases hk
      · rw [h1] at hk; have := Option.some.inj hk; omega
    · rcases hA2 with h2 | h2
      · rcases hA1 with h1 | h1
        · exact .inl (h2.trans h1)
        · exact .inr ⟨_, h2.trans h1, Nat.le_refl _⟩
      · exact .inr ⟨_, h2, hsz⟩
end Go.Proofs.YtfgplghjgjnggaaDoor.PickR
