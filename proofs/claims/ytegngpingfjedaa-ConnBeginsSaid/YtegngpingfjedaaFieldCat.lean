/-
  slices.Grow and slices.Concat of fields, over this seat's translation.
  Conditions: the lengths' sum.
-/
import Derived.Test.YtegngpingfjedaaFieldRows
import Derived.Test.YtegngpingfjedaaArgs
import Derived.WalkSpells
import Derived.WalkLawsBesides
import Derived.Lib.Hide
import Derived.Lib.AppendZerosOnto
import Derived.Lib.AppendZeros
import Derived.Lib.SliceRun
namespace Go.Proofs.Ytegngpingfjedaa.FieldCat
open Go.RowKit RowsK FieldRows
set_option linter.unusedSimpArgs false
set_option linter.unusedVariables false

abbrev OwnF (w : World) (b : Nat) (v : Value) (l : List Fld) : Prop := Own encF w b 121 v l
abbrev AtF (w : World) (v : Value) (l : List Fld) : Prop := At encF w v l
def zF : Value := .agg #[.string ⟨#[]⟩, .string ⟨#[]⟩]
theorem infoF : (Try.prog.info? 121).map (fun i => (i.zero, i.size, i.bytes)) = some (some zF, 2, 32) := by kernel_rfl
end Go.Proofs.Ytegngpingfjedaa.FieldCat
