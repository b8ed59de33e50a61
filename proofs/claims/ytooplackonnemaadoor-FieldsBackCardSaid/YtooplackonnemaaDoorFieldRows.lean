/-
  Slices of fields (a name and a value): how they are written down; slices.Insert ahead of all, over this seat's translation.
  Conditions: the length.
-/
import Derived.Test.YtooplackonnemaaDoorProg
import Derived.Test.YtooplackonnemaaDoorRowsK
import Derived.WalkSpells
import Derived.WalkLawsBesides
import Derived.Lib.Walk
import Derived.Lib.SliceRun
import Derived.Lib.JoinLaws
import Derived.Lib.AppendZeros
import Derived.Lib.AppendZerosOnto
import Derived.Lib.Overlaps
import Derived.Laws.Externs
import Derived.Laws.IdiomCopy
import Derived.Shelf.Spec.SlicesInsert
namespace Go.Proofs.YtooplackonnemaaDoor.FieldRows
open Go.RowKit RowsK
set_option linter.unusedSimpArgs false
set_option linter.unusedVariables false

/-- A field: its name, its value. -/
abbrev Fld := ByteArray × ByteArray
def encF : Enc Fld := ⟨2, fun f => [.string f.1, .string f.2], fun _ => rfl, fun x v hv => by simp at hv; rcases hv with rfl | rfl <;> rfl, by decide⟩
theorem elemF : Elem Tryd.prog 22 33 encF.k 32 := Elem.of (z := .agg #[.string ⟨#[]⟩, .string ⟨#[]⟩]) Tryd.underlying22 (by kernel_rfl) rfl (by decide)
end Go.Proofs.YtooplackonnemaaDoor.FieldRows
