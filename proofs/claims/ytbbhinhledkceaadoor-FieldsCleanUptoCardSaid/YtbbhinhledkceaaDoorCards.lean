/-
  DERIVED. GIVEN WITH THE SEED: THE CARDS: each row of YtbbhinhledkceaaDoorRows.lean that lists a variable, with what it lists TIED to the program's text (the seventh form; the later family's looks); each row that meets fmt, with fmt's text TOLD by the authors' own Lean function (tested against real Go, not proved from fmt's source: count such statements apart). THE CARD IS WHAT COUNTS. Prove the row's statement (the work); the ties are given (YtbbhinhledkceaaDoorTie.lean); close each card by the builder's one call (the guide's Derived/Test/ToyasCard.lean, 'card_holds'). Laid BY PROGRAM, IN A SANDBOX (cutbox-door.mjs). By AI agents, Wed Nov 11 2026. No macro, syntax, notation, axiom, sorry.
-/
import Derived.Test.YtbbhinhledkceaaDoorRows
import GoSem.ClaimSeven
namespace Go.Proofs.YtbbhinhledkceaaDoor
namespace Rows

/-- THE TIED CARD OF 'tolllaw5.FieldsClean'. -/
def fieldsCleanCard : Claim7 := { stood := { row := fieldsCleanRow, standIns := [], harness := (true, "3afccd96dcf58da8f6c64e5e1524255b9fb286b49b56bb630426cd1f05973911"), looks := true }, kinds := [], alts := [], laidByText := true, laidKinds := [.data, .pinned], laidTests := true, laidLooks := .later }
def FieldsCleanCardSaid : Prop := Claim7.holds Tryd.pinned (.plain (OpenSpec.ofChange fieldsCleanSpec)) fieldsCleanCard

/-- THE TIED CARD OF 'tolllaw2.FieldsBack'. -/
def fieldsBackCard : Claim7 := { stood := { row := fieldsBackRow, standIns := [], harness := (true, "3afccd96dcf58da8f6c64e5e1524255b9fb286b49b56bb630426cd1f05973911"), looks := true }, kinds := [], alts := [], laidByText := true, laidKinds := [.data, .data, .data, .data, .sentinel, .sentinel, .pinned], laidTests := true, laidLooks := .later }
def FieldsBackCardSaid : Prop := Claim7.holds Tryd.pinned (.plain (OpenSpec.ofChange fieldsBackSpec)) fieldsBackCard

/-- THE SECOND FORM's CARD OF 'tolllaw5.FieldsClean'. -/
def fieldsCleanUptoCard : Claim7 := { stood := { row := fieldsCleanUptoRow, standIns := [], harness := (true, "3afccd96dcf58da8f6c64e5e1524255b9fb286b49b56bb630426cd1f05973911"), looks := true }, kinds := [], alts := [], laidByText := true, laidKinds := [.data, .pinned], laidTests := true, laidLooks := .later }
def FieldsCleanUptoCardSaid : Prop := Claim7.holds Tryd.pinned (.plain (OpenSpec.upto fieldsCleanSpec)) fieldsCleanUptoCard

/-- THE SECOND FORM's CARD OF 'tolllaw2.FieldsBack'. -/
def fieldsBackUptoCard : Claim7 := { stood := { row := fieldsBackUptoRow, standIns := [], harness := (true, "3afccd96dcf58da8f6c64e5e1524255b9fb286b49b56bb630426cd1f05973911"), looks := true }, kinds := [], alts := [], laidByText := true, laidKinds := [.data, .data, .data, .data, .sentinel, .sentinel, .pinned], laidTests := true, laidLooks := .later }
def FieldsBackUptoCardSaid : Prop := Claim7.holds Tryd.pinned (.plain (OpenSpec.upto fieldsBackSpec)) fieldsBackUptoCard
end Rows
end Go.Proofs.YtbbhinhledkceaaDoor
