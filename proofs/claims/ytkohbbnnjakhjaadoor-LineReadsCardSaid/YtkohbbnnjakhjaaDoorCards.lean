/-
  DERIVED. GIVEN WITH THE SEED: THE CARDS: each row of YtkohbbnnjakhjaaDoorRows.lean that lists a variable, with what it lists TIED to the program's text (the seventh form; the later family's looks); each row that meets fmt, with fmt's text TOLD by the authors' own Lean function (tested against real Go, not proved from fmt's source: count such statements apart). THE CARD IS WHAT COUNTS. Prove the row's statement (the work); the ties are given (YtkohbbnnjakhjaaDoorTie.lean); close each card by the builder's one call (the guide's Derived/Test/ToyasCard.lean, 'card_holds'). Laid BY PROGRAM, IN A SANDBOX (cutbox-door.mjs). By AI agents, Wed Nov 11 2026. No macro, syntax, notation, axiom, sorry.
-/
import Derived.Test.YtkohbbnnjakhjaaDoorRows
import GoSem.ClaimSeven
namespace Go.Proofs.YtkohbbnnjakhjaaDoor
namespace Rows

/-- THE TIED CARD OF 'tolllaw2.LineReads'. -/
def lineReadsCard : Claim7 := { stood := { row := lineReadsRow, standIns := [], harness := (true, "e61564640b83ef85527745b88d86267c46ff4d8443589f59908853ac257ffdb2"), looks := true }, kinds := [], alts := [], laidByText := true, laidKinds := [.data, .handle, .pinned], laidTests := true, laidLooks := .later }
def LineReadsCardSaid : Prop := Claim7.holds Tryd.pinned (.plain (OpenSpec.ofChange lineReadsSpec)) lineReadsCard

/-- THE TIED CARD OF 'tolllaw5.LineRow'. -/
def lineRowCard : Claim7 := { stood := { row := lineRowRow, standIns := [], harness := (true, "e61564640b83ef85527745b88d86267c46ff4d8443589f59908853ac257ffdb2"), looks := true }, kinds := [], alts := [], laidByText := true, laidKinds := [.data, .data, .data, .data, .pinned], laidTests := true, laidLooks := .later }
def LineRowCardSaid : Prop := Claim7.holds Tryd.pinned (.plain (OpenSpec.ofChange lineRowSpec)) lineRowCard

/-- THE SECOND FORM's CARD OF 'tolllaw2.LineReads'. -/
def lineReadsUptoCard : Claim7 := { stood := { row := lineReadsUptoRow, standIns := [], harness := (true, "e61564640b83ef85527745b88d86267c46ff4d8443589f59908853ac257ffdb2"), looks := true }, kinds := [], alts := [], laidByText := true, laidKinds := [.data, .handle, .pinned], laidTests := true, laidLooks := .later }
def LineReadsUptoCardSaid : Prop := Claim7.holds Tryd.pinned (.plain (OpenSpec.upto lineReadsSpec)) lineReadsUptoCard

/-- THE SECOND FORM's CARD OF 'tolllaw5.LineRow'. -/
def lineRowUptoCard : Claim7 := { stood := { row := lineRowUptoRow, standIns := [], harness := (true, "e61564640b83ef85527745b88d86267c46ff4d8443589f59908853ac257ffdb2"), looks := true }, kinds := [], alts := [], laidByText := true, laidKinds := [.data, .data, .data, .data, .pinned], laidTests := true, laidLooks := .later }
def LineRowUptoCardSaid : Prop := Claim7.holds Tryd.pinned (.plain (OpenSpec.upto lineRowSpec)) lineRowUptoCard
end Rows
end Go.Proofs.YtkohbbnnjakhjaaDoor
