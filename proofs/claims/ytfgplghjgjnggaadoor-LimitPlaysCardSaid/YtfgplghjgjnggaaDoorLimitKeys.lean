/-
  The contract of limit.Keys over this seat's translation: the keys, sorted, in a slice of the call's own.
  Conditions: the receiver's cells, the maps' blocks; no more than 1000000 keys.
-/
import Derived.Test.YtfgplghjgjnggaaDoorLimit
import Derived.Test.YtfgplghjgjnggaaDoorIter
import Derived.WalkKit
import Derived.OwnWalkIn
import Derived.Lib.Hide
namespace Go.Proofs.YtfgplghjgjnggaaDoor.LimitC
open Go.RowKit Go.Maps Go.Sort Go.Shelf MapsL ModL
set_option linter.unusedSimpArgs false
set_option linter.unusedVariables false

set_option maxHeartbeats 1000000 in
theorem keys_any {w : World} {b ma ms : Nat} {rate burst : Int} {l : List Ent} (h : IsLimit w b ma ms rate burst l) (hl : l.length ≤ 1000000) :
    Calls Tryd.prog 24 #[.pointer (some ⟨b, 0, none⟩)] w fun e w' => ∃ (v : Value) (ss : List (List UInt8)), e = .returned v ∧ ss.Perm (l.map (·.key)) ∧
      w'.ownsRow w.heap.size 9 1 v ss.length ((ss.mergeSort (fun x y => decide (x ≤ y))).map encStr) ∧ (v = .slice none 0 0 ↔ ss = []) ∧ Below w.heap.size w w' := by
  have c2 := h.c2
  obtain ⟨hk, es, hown, hperm⟩ := h.mapA
  have hes : es.length = l.length := by rw [hperm.length_eq]; simp [enc, encA]
  have hks : (strKeys (DataW.map es)).Perm (l.map (·.key)) := by
    refine (hperm.map _).trans ?_
    have e : (enc (encA l)).map (fun p => strOf p.1) = l.map (·.key) := by simp [enc, encA, strOf, Function.comp_def]
    rw [e]
  have hmax : Go.Maps.size (DataW.map es) ≤ maxLen := by show es.length ≤ maxLen; unfold maxLen; omega
  have hbytes : Go.Maps.size (DataW.map es) * 16 ≤ 140737488355328 := by show es.length * 16 ≤ _; omega
  refine (callsIn_wide (n := 6)).1 ?_
  have hfK : Fence.wide.fn 39 := trivial
  have hfS : Fence.wide.fn 38 := trivial
  refine callsIn_of_wp Tryd.func24 rfl trivial ?_ rfl
  simp only [Tryd.ntmps24, List.size_toArray, List.length_cons, List.length_nil, Nat.reduceAdd, Nat.reduceSub, Array.replicate_succ, Array.replicate_zero, List.push_toArray, List.append_toArray, List.nil_append, List.cons_append]
  gi_wp2_with (first
    | (gi_at_call 39; refine (Tryd.maps_Keys_39 _ _).mono ?_; rintro e w' ⟨rfl, rfl⟩)
    | (gi_at_call 38; refine (Tryd.slices_Sorted_keys_38_39 ma _ (DataW.map es) RV w hown hmax hbytes).mono ?_; rintro e w' ⟨v, ss, rfl, hS, hrow, hnil, hb⟩))
  go_ret
  exact ⟨v, ss, rfl, hS.trans hks, ownsRow_base_a hrow (by simp), hnil, ((Below.refl _ w).alloc (Nat.le_refl _) _).trans (hb.mono (by simp))⟩
end Go.Proofs.YtfgplghjgjnggaaDoor.LimitC
