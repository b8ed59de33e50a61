/-
  slices.Delete of one link over this seat's translation.
  Conditions: none.
-/
import Derived.Test.YtcdhjbeeehjpiaaDoorBack
import Derived.Test.YtcdhjbeeehjpiaaDoorRowsClear
import Derived.WalkSpells
import Derived.Shelf.RegionOpen
import Derived.Shelf.RegionOpenPlain
import Derived.WalkLawsBesides
import Derived.Lib.Walk
import Derived.Lib.SliceRun
namespace Go.Proofs.YtcdhjbeeehjpiaaDoor.PoolC
open Go.RowKit RowsK RowsM Back
set_option linter.unusedSimpArgs false
set_option linter.unusedVariables false

theorem zeroL (w : World) : (zeroValue 82).run Tryd.prog w = .ok (.agg #[.int .i64 0, .int .i64 0, .string ⟨#[]⟩]) w := by kernel_rfl
theorem at_tail {w : World} {b n c i : Nat} {l : List Link} (h : At encL w (.slice (some ⟨b, 0, none⟩) n c) l) (hi : i ≤ n) : ∃ A, At encL w (.slice A (n - i) (c - i)) (l.drop i) ∧ (if c = i then some (⟨b, 0, none⟩ : Addr) else some ⟨b, i * 3, none⟩) = A := by
  obtain ⟨a', cap', e, h1, h2, h3, hel⟩ := h
  simp only [Value.slice.injEq] at e
  obtain ⟨rfl, rfl, rfl⟩ := e
  refine ⟨_, ?_, rfl⟩
  have hlen : (l.drop i).length = l.length - i := List.length_drop
  by_cases hc : c = i
  · rw [if_pos hc]
    refine ⟨_, _, by rw [hlen], by rw [hlen]; omega, by omega, (fun e => by cases e), fun j hj => ?_⟩
    rw [hlen] at hj; omega
  · rw [if_neg hc]
    refine ⟨_, _, by rw [hlen], by rw [hlen]; omega, by omega, (fun e => by cases e), fun j hj => ?_⟩
    rw [hlen] at hj
    obtain ⟨b', off, e, hb, hcc⟩ := hel (i + j) (by omega)
    simp only [Option.some.injEq, Addr.mk.injEq, and_true] at e
    obtain ⟨rfl, rfl⟩ := e
    refine ⟨b, i * 3, rfl, hb, fun t ht => ?_⟩
    have := hcc t ht
    rw [List.getElem_drop]
    have e3 : 0 + ((i + j) * encL.k + t) = i * 3 + (j * encL.k + t) := by show 0 + ((i + j) * 3 + t) = i * 3 + (j * 3 + t); omega
    rw [e3] at this
    exact this
set_option maxRecDepth 100000 in
set_option maxHeartbeats 8000000 in
theorem delete1 (base b c n i : Nat) (l : List Link) (w : World) (h : RowsK.Own encL w base 82 (.slice (some ⟨b, 0, none⟩) n c) l) (hn : l.length = n) (hi : i < n) (hnb : n < 1000000000) :
    Calls Tryd.prog 28 #[.slice (some ⟨b, 0, none⟩) n c, .int .i64 (i : Nat), .int .i64 ((i : Int) + 1)] w fun e w' => e = .returned (.slice (some ⟨b, 0, none⟩) (n - 1) c) ∧ RowsK.Own encL w' base 82 (.slice (some ⟨b, 0, none⟩) (n - 1) c) (l.take i ++ l.drop (i + 1)) ∧ w.grownBy w' (some b) := by
  obtain ⟨hnc, hc63⟩ : n ≤ c ∧ c ≤ 9223372036854775807 := by
    obtain ⟨a0, c0, e0, h1, h2, _, _⟩ := h.slice
    simp only [Value.slice.injEq] at e0
    obtain ⟨_, _, rfl⟩ := e0
    exact ⟨by omega, h2⟩
  have mixed : Tryd.prog.follows Departure.mixedOrders = true := by kernel_rfl
  have hd := h.drew
  have hcut := hd.cut i (by omega) (by simp)
  obtain ⟨A, hA, hAe⟩ := at_tail hd.at_ (i := i + 1) (by omega)
  obtain ⟨W1, hr1, hO1, hG1⟩ := run_append_stays elemL 74 hcut (by rw [List.length_take]; omega) A (n - (i + 1)) (c - (i + 1)) _ hA (by rw [List.length_drop, hn]) (by omega)
  have hlen1 : (l.take i ++ l.drop (i + 1)).length = i + (n - (i + 1)) := by rw [List.length_append, List.length_take, List.length_drop, hn]; omega
  obtain ⟨W2, hr2, hO2, hG2⟩ := run_clear_tail Tryd.underlying74 zeroL rfl (by decide) hO1 hlen1 (n - (i + (n - (i + 1)))) (by omega) (some ⟨b, (i + (n - (i + 1))) * 3, none⟩) (c - (i + (n - (i + 1)))) (fun _ => rfl)
  have HO2 := Lib.hid hO2
  have HG := Lib.hid (show w.grownBy W2 (some b) from ⟨hG2.os.trans hG1.os, hG2.tape.trans (hG1.tape), hG2.output.trans hG1.output, Nat.le_trans hG1.size hG2.size, fun k hk hne => (hG2.block k (Nat.lt_of_lt_of_le hk hG1.size) hne).trans (hG1.block k hk hne)⟩)
  clear h hd hcut hA hO1 hG1 hlen1 hO2 hG2 hn
  have q0 : (0 : Int) ≤ (i : Int) := by omega
  have q1 : (i : Int) + 1 ≤ (n : Int) := by omega
  have q2 : (i : Int) ≤ (i : Int) + 1 := by omega
  have q3 : (i : Int) ≤ (c : Int) := by omega
  have q4 : ((i : Int) + 1).toNat = i + 1 := by omega
  have q5 : (n : Int) ≤ (c : Int) := by omega
  have q6 : ((i : Int) == (i : Int) + 1) = false := beq_eq_false_iff_ne.2 (by omega)
  have q7 : (i : Int) + 1 ≤ (c : Int) := by omega
  have q10 : (0 : Int) ≤ (i : Int) + 1 := by omega
  have q8 : i + (n - (i + 1)) = n - 1 := by omega
  have q9 : n - (n - 1) = 1 := by omega
  rw [q8] at hr1 hr2 HO2
  rw [q9] at hr2
  have HR1 := Lib.hid hr1
  clear hr1
  by_cases hci : c = i + 1
  · rw [if_pos hci] at hAe
    subst hAe
    subst hci
    obtain rfl : n = i + 1 := by omega
    have e1 : i + 1 - 1 = i := rfl
    have e2 : i + 1 - i = 1 := by omega
    rw [e1] at hr2 HO2 HR1 ⊢
    rw [e2] at hr2
    clear q8 q9
    go_enter Tryd.func28, Tryd.ntmps28
    go_wp2_with fail
    go_region_law_o (refine step_append_run rfl _ _ 74 rfl _ _ (by simp [Act.eval, Act.put]) (by simp [Act.eval, Act.put]) HR1.out ?_)
    go_wp2_with fail
    go_ret
    exact ⟨rfl, HO2.out, HG.out⟩
  · rw [if_neg hci] at hAe
    subst hAe
    go_enter Tryd.func28, Tryd.ntmps28
    go_wp2_with fail
    go_region_law_o (refine step_append_run rfl _ _ 74 rfl _ _ (by simp [Act.eval, Act.put]) (by simp [Act.eval, Act.put]) HR1.out ?_)
    go_wp2_with fail
    go_ret
    exact ⟨rfl, HO2.out, HG.out⟩
end Go.Proofs.YtcdhjbeeehjpiaaDoor.PoolC
