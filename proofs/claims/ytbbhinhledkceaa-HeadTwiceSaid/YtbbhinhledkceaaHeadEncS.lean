/-
  What Coder.Encode says of fields, in plain Lean.
  Conditions: none.
-/
import Derived.Test.YtbbhinhledkceaaHeadSt
import Derived.Test.YtbbhinhledkceaaTableFind
namespace Go.Proofs.Ytbbhinhledkceaa.HeadF
open Go.RowKit RowsK FieldRows ModL TableC HeadC CodeC WireC
set_option linter.unusedVariables false
set_option linter.unusedSimpArgs false

/-- One field as bytes, and the table's fields and weight behind it. -/
def enc1 (max : Int) (f : Fld) (l : List Fld) (s : Int) : List Int × List Fld × Int :=
  if 0 < fst (sameF f) (allL l) then (putL (fst (sameF f) (allL l) : Nat) (7 : Nat) 128, l, s)
  else ((putL (fst (sameN f) (allL l) : Nat) (6 : Nat) 64 ++ if fst (sameN f) (allL l) = 0 then textL f.1.data.toList else []) ++ textL f.2.data.toList, (addL max l s f).1, (addL max l s f).2.1)
/-- Fields as bytes. -/
def encL (max : Int) : List Fld → List Fld → Int → List Int × List Fld × Int
  | [], l, s => ([], l, s)
  | f :: fs, l, s => ((enc1 max f l s).1 ++ (encL max fs (enc1 max f l s).2.1 (enc1 max f l s).2.2).1, (encL max fs (enc1 max f l s).2.1 (enc1 max f l s).2.2).2)
/-- Whether a text of the fields is too long. -/
def longB (l : List Fld) : Bool := l.any fun f => decide (400 < f.1.size) || decide (400 < f.2.size)
end Go.Proofs.Ytbbhinhledkceaa.HeadF
