/-
  A struct of many cells as one row: what stands in it, and one cell of it set.
  Conditions: none.
-/
import Derived.Test.YtegngpingfjedaaGreatDoorProg
import Derived.WalkKit
import Derived.Test.YtegngpingfjedaaGreatDoorMod
namespace Go.Proofs.YtegngpingfjedaaGreatDoor.ConnR
open Go.RowKit ModL
set_option linter.unusedVariables false
set_option linter.unusedSimpArgs false

/-- The cells of block g, n of them. -/
structure CR (n : Nat) (w : World) (g : Nat) (cs : Nat → Value) : Prop where
  at_ : ∀ i, i < n → w.cell? ⟨g, i, none⟩ = some (cs i)
  fz : ∀ i, i < n → w.frozen? ⟨g, i, none⟩ = false
  lt : g < w.heap.size
/-- One cell set. -/
def upd (cs : Nat → Value) (i : Nat) (v : Value) : Nat → Value := fun j => if j = i then v else cs j
theorem upd_same (cs : Nat → Value) (i : Nat) (v : Value) : upd cs i v i = v := if_pos rfl
theorem upd_other (cs : Nat → Value) {i j : Nat} (v : Value) (h : j ≠ i) : upd cs i v j = cs j := if_neg h
variable {n : Nat} {w w' : World} {g : Nat} {cs : Nat → Value}
theorem CR.of_block (h : CR n w g cs) (hb : w'.heap[g]? = w.heap[g]?) (hs : w.heap.size ≤ w'.heap.size) : CR n w' g cs :=
  ⟨fun i hi => (World.cell?_of_block (a := ⟨g, i, none⟩) hb).trans (h.at_ i hi), fun i hi => (World.frozen?_of_block (a := ⟨g, i, none⟩) hb).trans (h.fz i hi), Nat.lt_of_lt_of_le h.lt hs⟩
theorem CR.below (h : CR n w g cs) (hB : Below w.heap.size w w') : CR n w' g cs := h.of_block (hB.block g h.lt) hB.size
theorem CR.set (h : CR n w g cs) (i : Nat) (hi : i < n) (v : Value) : CR n (w.setCell ⟨g, i, none⟩ v) g (upd cs i v) := by
  refine ⟨fun j hj => ?_, fun j hj => by simpa using h.fz j hj, by simpa using h.lt⟩
  by_cases hji : j = i
  · subst hji
    rw [upd_same]
    exact World.cell?_setCell_same _ _ _ (h.at_ j hj)
  · rw [upd_other _ _ hji]
    exact (World.cell?_setCell_other _ _ _ _ (by simp [Ne.symm hji, hji])).trans (h.at_ j hj)
theorem CR.set_other (h : CR n w g cs) (a : Addr) (ha : a.block ≠ g) (v : Value) : CR n (w.setCell a v) g cs := by
  have hM : Mod (fun k => k = a.block) w (w.setCell a v) := (Mod.refl (fun k => k = a.block) w).setCell (fun _ => rfl) _
  exact h.of_block (hM.block g h.lt (fun e => ha e.symm)) hM.size
end Go.Proofs.YtegngpingfjedaaGreatDoor.ConnR
