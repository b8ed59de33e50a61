/-
  A text turned into bytes: the new row's cells, and that nothing old turns.
  Conditions: none.
-/
import Derived.Test.YtooplackonnemaaDoorProg
import Derived.WalkKit
import Derived.Below
import Derived.Lib.ConvBytes
import Derived.Laws.AppendOwn
namespace Go.Proofs.YtooplackonnemaaDoor.ConvL
open Go.RowKit
set_option linter.unusedVariables false

theorem conv_any (s : ByteArray) (w : World) : ∃ (cap : Nat) (w1 : World), (convert 9 23 (.string s)).run Tryd.prog w = .ok (.slice (some ⟨w.heap.size, 0, none⟩) s.size cap) w1 ∧
    Below w.heap.size w w1 ∧ w1.heap.size = w.heap.size + 1 ∧ s.size ≤ cap ∧ ∀ j, j < s.size → w1.cell? ⟨w.heap.size, j, none⟩ = some (.int .u8 (s.data.toList.getD j 0).toNat) := by
  refine ⟨_, _, Lib.run_convert_string_bytes w 9 23 5 s Tryd.underlying9 Tryd.underlying23 Tryd.underlying5, ⟨rfl, rfl, rfl, ?_, ?_⟩, Lib.bytesWorld_size _ _ _, ?_, fun j hj => Lib.bytesWorld_cell _ _ _ j hj⟩
  · rw [Lib.bytesWorld_size]; omega
  · intro k hk; exact Lib.bytesWorld_at_old w 5 s k hk
  · exact grownCap_ge _ _ _ _
end Go.Proofs.YtooplackonnemaaDoor.ConvL
