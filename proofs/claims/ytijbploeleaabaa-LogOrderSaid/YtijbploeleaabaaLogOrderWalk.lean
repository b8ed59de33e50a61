/-
  The walk of the law LogOrder: for all numbers and parts it returns true and writes nothing that was there.
  Conditions: none.
-/
import Derived.Test.YtijbploeleaabaaLogRank
import Derived.Test.YtijbploeleaabaaRows1
import Derived.Lib.Hide
namespace Go.Proofs.Ytijbploeleaabaa.WalkLogOrder
open Go.RowKit LogC IterI
set_option linter.unusedVariables false
set_option linter.unusedSimpArgs false

theorem elemI : RowsL.Elem Try.prog 22 3 (.int .i64 0) 8 := ⟨Try.underlying22, by kernel_rfl, rfl, by decide⟩
def valI (l : List Int) : List Value := l.map (Value.int .i64)
theorem valI_len (l : List Int) : (valI l).length = l.length := by simp [valI]
theorem sorted_pw (zs : List Int) : (sortL zs).Pairwise (fun a b => a ≤ b) := by
  have h := List.pairwise_mergeSort (le := fun x y : Int => decide (x ≤ y)) (fun a b c h1 h2 => by simp only [decide_eq_true_eq] at h1 h2 ⊢; omega) (fun a b => by simp; omega) zs
  exact h.imp fun h => by simpa using h
theorem sorted_rev (zs : List Int) : sortL zs.reverse = sortL zs := by
  refine List.Perm.eq_of_pairwise (le := fun a b => a ≤ b) (fun a b _ _ h1 h2 => by omega) (sorted_pw _) (sorted_pw _) ?_
  exact (List.mergeSort_perm _ _).trans ((List.reverse_perm zs).trans (List.mergeSort_perm _ _).symm)
theorem rank_mem (zs : List Int) (part : Int) (h0 : 0 < zs.length) (h1 : 1 ≤ part) (h2 : part ≤ 100) : rankV zs part ∈ zs := by
  have hl := (rankI_lt h0 h1 h2).1
  have : rankV zs part ∈ sortL zs := by
    unfold rankV
    rw [List.getD_eq_getElem?_getD, List.getElem?_eq_getElem (by rw [sortL_len]; exact hl)]
    exact List.getElem_mem _
  exact List.mem_mergeSort.1 this
theorem rank_mono (zs : List Int) (a b : Int) (h0 : 0 < zs.length) (ha : 1 ≤ a) (hb : b ≤ 100) (hab : a ≤ b) : rankV zs a ≤ rankV zs b := by
  obtain ⟨l1, e1⟩ := rankI_lt (n := zs.length) h0 ha (by omega)
  obtain ⟨l2, e2⟩ := rankI_lt (n := zs.length) h0 (show 1 ≤ b by omega) hb
  have hm : (zs.length : Int) * a ≤ zs.length * b := Int.mul_le_mul_of_nonneg_left hab (by omega)
  have hle : rankI zs.length a ≤ rankI zs.length b := by omega
  have k1 : rankI zs.length a < (sortL zs).length := by rw [sortL_len]; exact l1
  have k2 : rankI zs.length b < (sortL zs).length := by rw [sortL_len]; exact l2
  unfold rankV
  rw [List.getD_eq_getElem?_getD, List.getD_eq_getElem?_getD, List.getElem?_eq_getElem k1, List.getElem?_eq_getElem k2]
  simp only [Option.getD_some]
  rcases Nat.lt_or_ge (rankI zs.length a) (rankI zs.length b) with h | h
  · exact List.pairwise_iff_getElem.1 (sorted_pw zs) _ _ k1 k2 h
  · have e : rankI zs.length a = rankI zs.length b := by omega
    simp only [e]; exact Int.le_refl _
theorem rank_ok_bd {n : Nat} {part : Int} (h : rankE n part = 0) : 1 ≤ part ∧ part ≤ 100 ∧ 0 < n ∧ n ≤ 1000 := by
  unfold rankE at h
  split at h
  · omega
  · split at h
    · omega
    · split at h <;> omega
theorem fact_rank : rankV [3, 1, 2] 50 = 2 := by
  have e : sortL [3, 1, 2] = [1, 2, 3] := by simp [sortL, List.mergeSort, List.MergeSort.Internal.splitInTwo]
  unfold rankV
  rw [e]; rfl
theorem row_old {w w' : World} {v : Value} {xs : List Value} (h : Args.RowAt w v xs) (hB : Below w.heap.size w w') : Args.RowAt w' v xs := Args.RowAt.below h hB
set_option maxRecDepth 100000 in
set_option maxHeartbeats 8000000 in
theorem walk (v0 : Value) (zs : List Int) (a b : Int) (w : World) (w0 : Args.IntsAt w v0 zs) (w1 : Args.I64 a) (w2 : Args.I64 b) :
    Calls Try.prog 3 #[v0, .int .i64 a, .int .i64 b] w fun e w' => e = .returned (.bool true) ∧ Below w.heap.size w w' := by
  obtain ⟨hR0, hZ0⟩ := w0
  have HR0 := Lib.hid hR0
  obtain ⟨r1, r2⟩ := w1
  obtain ⟨b1, b2⟩ := w2
  obtain ⟨a0, cap0, rfl, hcap1, hcap2, hnil, hel⟩ := hR0
  simp only [List.length_map] at hcap1 hcap2 hel HR0
  have HEL := Lib.hid hel
  clear hel
  have hB1 : Below w.heap.size w (w.alloc (.cells #[.int .i64 3, .int .i64 1, .int .i64 2] 3)) := (Below.refl _ w).alloc (Nat.le_refl _) _
  have HF := Lib.hid (rank_ok (.slice (some ⟨w.heap.size, 0, none⟩) 3 3) [3, 1, 2] 50 (w.alloc (.cells #[.int .i64 3, .int .i64 1, .int .i64 2] 3)) ⟨some ⟨w.heap.size, 0, none⟩, 3, rfl, by decide, by decide, by simp, fun i hi => ⟨w.heap.size, 0, rfl, by simp, by simp⟩⟩ rfl)
  rw [fact_rank] at HF
  simp only [List.length_map]
  go_enter Try.func3, Try.ntmps3
  go_wp2_with fail
  refine HF.out.mono ?_
  rintro e w2 ⟨rfl, hB2⟩
  have HB2 : Hid (Below w.heap.size w w2) := hB1.trans (hB2.mono (by simp))
  clear hB1 hB2 HF
  by_cases ha : rankE zs.length a = 0
  · have HA := Lib.hid (rank_ok _ zs a w2 (row_old HR0.out HB2.out) ha)
    go_wp2_with fail
    refine HA.out.mono ?_
    rintro e w3 ⟨rfl, hB3⟩
    have HB3 : Hid (Below w.heap.size w w3) := HB2.out.trans (hB3.mono HB2.out.size)
    clear hB3 HA
    by_cases hb : rankE zs.length b = 0
    · have HBb := Lib.hid (rank_ok _ zs b w3 (row_old HR0.out HB3.out) hb)
      go_wp2_with fail
      refine HBb.out.mono ?_
      rintro e w4 ⟨rfl, hB4⟩
      have HB4 : Hid (Below w.heap.size w w4) := HB3.out.trans (hB4.mono HB3.out.size)
      clear hB4 HBb HB2 HB3
      go_wp2_with fail
      obtain ⟨a1, a2, n0, n1⟩ := rank_ok_bd ha
      obtain ⟨c1, c2, _, _⟩ := rank_ok_bd hb
      obtain ⟨X, hX⟩ : ∃ X, rankV zs a = X := ⟨_, rfl⟩
      obtain ⟨Y, hY⟩ : ∃ Y, rankV zs b = Y := ⟨_, rfl⟩
      have HXY : Hid (rankV zs a = X ∧ X ∈ zs ∧ (a ≤ b → X ≤ Y)) := ⟨hX, by rw [← hX]; exact rank_mem zs a n0 a1 a2, fun h => by rw [← hX, ← hY]; exact rank_mono zs a b n0 a1 c2 h⟩
      have HAE := Lib.hid ha
      rw [hX, hY]
      clear hX hY ha hb
      have hsz4 : w.heap.size ≤ w4.heap.size := HB4.out.size
      go_loopw [13, 14, 15] (fun bi bk iv wr => ∃ j : Nat, iv = .int .i64 ((j : Int) - 1) ∧ j ≤ zs.length ∧ bi = .bool (decide (X ∈ zs.drop j)) ∧ RowsL.Own wr w4.heap.size 3 bk (valI (zs.drop j).reverse) ∧ Below w4.heap.size w4 wr) (fun _ _ iv _ => (intOf iv + 1).toNat)
      case atStart => exact ⟨zs.length, rfl, Nat.le_refl _, by simp, by simp [valI]; exact RowsL.Own.nil _ _ _, Below.refl _ _⟩
      case round =>
        obtain ⟨j, rfl, hj, rfl, hO, hB⟩ := hrel
        have HO := Lib.hid hO
        have HB := Lib.hid hB
        have hszr := hB.size
        cases j with
        | zero =>
          have hO0 := hO
          rw [List.drop_zero] at hO0
          have hd : decide (X ∈ zs.drop 0) = true := by simp [HXY.out.2.1]
          rw [hd]
          obtain ⟨g, cap, rfl, v1, v2, v3, v4, v5, v6⟩ := hO0.slice1 zs.length (by simp [valI]) n0
          have HR := Lib.hid (rank_ok (.slice (some ⟨g, 0, none⟩) zs.length cap) zs.reverse a wr ⟨some ⟨g, 0, none⟩, cap, by simp, by simp; exact v1, v2, by simp, fun i hi => ⟨g, 0, rfl, v4, by
            simp only [List.length_map, List.length_reverse] at hi
            rw [Nat.zero_add, v5 i hi]; rfl⟩⟩ (by rw [List.length_reverse]; exact HAE.out))
          have hrv : rankV zs.reverse a = X := by rw [← HXY.out.1]; unfold rankV; rw [sorted_rev, List.length_reverse]
          rw [hrv] at HR
          have HBw : Hid (Below w.heap.size w wr) := HB4.out.trans (hB.mono hsz4)
          have hord : ¬ (b < a) → X ≤ Y := fun h => HXY.out.2.2 (by omega)
          clear hO hO0 hB hd hrv v5 v6 HO HB
          go_wp2_with fail
          refine HR.out.mono ?_
          rintro e w6 ⟨rfl, hB6⟩
          have hfin := HBw.out.trans (hB6.mono HBw.out.size)
          by_cases hab : b < a
          · go_wp2
            go_ret
            exact ⟨rfl, hfin⟩
          · have hxy := hord (by omega)
            go_wp2
            go_ret
            exact ⟨rfl, hfin⟩
        | succ j =>
          have hjz : j < zs.length := by omega
          obtain ⟨b5, o5, rfl, hb5, hc5⟩ := HEL.out j hjz
          have hcz := ((HB4.out.trans (hB.mono hsz4)).cell (p := ⟨b5, o5 + j, none⟩) hb5).trans (hc5.trans (map_get zs j hjz))
          have hdr : zs.drop j = zs.getD j 0 :: zs.drop (j + 1) := by rw [List.drop_eq_getElem_cons hjz]; simp [List.getD, hjz]
          have HDR := Lib.hid hdr
          have hlb : (valI (zs.drop (j + 1)).reverse).length < 4398046511000 := by simp [valI]; omega
          rw [show ((j + 1 : Nat) : Int) - 1 = (j : Int) by omega]
          generalize zs.getD j 0 = zj at *
          have d2 : (0 : Int) ≤ (j : Int) := by omega
          have d3 : (j : Int) < (zs.length : Int) := by omega
          clear hO hB hc5 hdr
          by_cases hbi : X ∈ zs.drop (j + 1) <;> by_cases hz : zj = X
          all_goals
            have HNEW : Hid (X ∈ zj :: zs.drop (j + 1) ↔ (zj = X ∨ X ∈ zs.drop (j + 1))) := by
              show _ ↔ _
              rw [List.mem_cons]
              exact ⟨fun h => h.imp Eq.symm id, fun h => h.imp Eq.symm id⟩
            have HBI := Lib.hid hbi
            have HZ := Lib.hid hz
            first
              | (have hdI : decide (X ∈ zs.drop (j + 1)) = true := by simp [hbi])
              | (have hdI : decide (X ∈ zs.drop (j + 1)) = false := by simp [hbi])
            first
              | (have hze : (zj == X) = true := by simp [hz])
              | (have hze : (zj == X) = false := by simpa using hz)
            rw [hdI]
            clear hbi hz hdI
            go_wp2_with (first
              | (at_builtin; refine RowsL.wpList_append1 elemI rfl _ _ rfl w4.heap.size u14 _ rfl (RowsL.Own.alloc HO.out _) wr.heap.size 1 _ rfl (RowsL.cell_new1 _ _ _) rfl hlb (RowsL.le_alloc _ hszr) ?_; intro bk2 w6 hown6 hB6 hg6 hat6; have HO6 := Lib.hid hown6; have HB6 : Hid (Below w4.heap.size w4 w6) := (HB.out.alloc hszr _).trans hB6; clear hown6 hB6 hg6 hat6)
              | fail)
            go_roundw
            case measure => simp [intOf] <;> omega
            refine ⟨j, rfl, by omega, ?_, ?_, HB6.out⟩
            · rw [HDR.out]
              have hz := HZ.out
              have hbi := HBI.out
              congr 1
              first
                | (symm; rw [decide_eq_true_eq]; exact HNEW.out.2 (by first | exact .inl hz | exact .inr hbi))
                | (symm; rw [decide_eq_false_iff_not]; exact fun h => by rcases HNEW.out.1 h with h | h; exact hz h; exact hbi h)
            · have h := HO6.out
              rw [HDR.out, List.reverse_cons]
              simpa [valI] using h
    · have HBb := Lib.hid (rank_bad _ zs b w3 (row_old HR0.out HB3.out) hb)
      go_wp2_with fail
      refine HBb.out.mono ?_
      rintro e w4 ⟨rfl, hB4⟩
      go_wp2
      go_ret
      exact ⟨rfl, HB3.out.trans (hB4.mono HB3.out.size)⟩
  · have HA := Lib.hid (rank_bad _ zs a w2 (row_old HR0.out HB2.out) ha)
    go_wp2_with fail
    refine HA.out.mono ?_
    rintro e w3 ⟨rfl, hB3⟩
    have HB3 : Hid (Below w.heap.size w w3) := HB2.out.trans (hB3.mono HB2.out.size)
    clear hB3 HA
    by_cases hb : rankE zs.length b = 0
    · have HBb := Lib.hid (rank_ok _ zs b w3 (row_old HR0.out HB3.out) hb)
      go_wp2_with fail
      refine HBb.out.mono ?_
      rintro e w4 ⟨rfl, hB4⟩
      go_wp2
      go_ret
      exact ⟨rfl, HB3.out.trans (hB4.mono HB3.out.size)⟩
    · have HBb := Lib.hid (rank_bad _ zs b w3 (row_old HR0.out HB3.out) hb)
      go_wp2_with fail
      refine HBb.out.mono ?_
      rintro e w4 ⟨rfl, hB4⟩
      go_wp2
      go_ret
      exact ⟨rfl, HB3.out.trans (hB4.mono HB3.out.size)⟩
end Go.Proofs.Ytijbploeleaabaa.WalkLogOrder
