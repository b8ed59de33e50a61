/-
  DERIVED. GIVEN WITH THE SEED: THE CARDS: each row of YtcpkikillmmjcaaGreatDoorRows.lean that lists a variable, with what it lists TIED to the program's text (the seventh form; the later family's looks); each row that meets fmt, with fmt's text TOLD by the authors' own Lean function (tested against real Go, not proved from fmt's source: count such statements apart). THE CARD IS WHAT COUNTS. Prove the row's statement (the work); the ties are given (YtcpkikillmmjcaaGreatDoorTie.lean); close each card by the builder's one call (the guide's Derived/Test/ToyasCard.lean, 'card_holds'). Laid BY PROGRAM, IN A SANDBOX (cutbox-door.mjs). By AI agents, Wed Nov 11 2026. No macro, syntax, notation, axiom, sorry.
-/
import Derived.Test.YtcpkikillmmjcaaGreatDoorRows
import GoSem.ClaimSeven
namespace Go.Proofs.YtcpkikillmmjcaaGreatDoor
namespace Rows

/-- THE TIED CARD OF 'tolllaw3.LogReads'. -/
def logReadsCard : Claim7 := { stood := { row := logReadsRow, standIns := [], harness := (true, "8226146dd5ac1301fe60adebe1009a9d24412d529fa5853c24564306bb60939e"), looks := true }, kinds := [], alts := [], laidByText := true, laidKinds := [.data, .data, .data, .data, .handle, .sentinel, .sentinel, .pinned], laidTests := true, laidLooks := .later }
def LogReadsCardSaid : Prop := Claim7.holds Tryz.pinned (.plain (OpenSpec.ofChange logReadsSpec)) logReadsCard

/-- THE TIED CARD OF 'tolllaw3.LogSums'. -/
def logSumsCard : Claim7 := { stood := { row := logSumsRow, standIns := [], harness := (true, "8226146dd5ac1301fe60adebe1009a9d24412d529fa5853c24564306bb60939e"), looks := true }, kinds := [], alts := [], laidByText := true, laidKinds := [.data, .handle, .pinned], laidTests := true, laidLooks := .later }
def LogSumsCardSaid : Prop := Claim7.holds Tryz.pinned (.plain (OpenSpec.ofChange logSumsSpec)) logSumsCard

/-- THE TIED CARD OF 'tolllaw3.LogBack'. -/
def logBackCard : Claim7 := { stood := { row := logBackRow, standIns := [], harness := (true, "8226146dd5ac1301fe60adebe1009a9d24412d529fa5853c24564306bb60939e"), looks := true }, kinds := [], alts := [], laidByText := true, laidKinds := [.data, .data, .data, .data, .sentinel, .sentinel, .pinned], laidTests := true, laidLooks := .later }
def LogBackCardSaid : Prop := Claim7.holds Tryz.pinned (.plain (OpenSpec.ofChange logBackSpec)) logBackCard

/-- THE SECOND FORM's CARD OF 'tolllaw3.LogReads'. -/
def logReadsUptoCard : Claim7 := { stood := { row := logReadsUptoRow, standIns := [], harness := (true, "8226146dd5ac1301fe60adebe1009a9d24412d529fa5853c24564306bb60939e"), looks := true }, kinds := [], alts := [], laidByText := true, laidKinds := [.data, .data, .data, .data, .handle, .sentinel, .sentinel, .pinned], laidTests := true, laidLooks := .later }
def LogReadsUptoCardSaid : Prop := Claim7.holds Tryz.pinned (.plain (OpenSpec.upto logReadsSpec)) logReadsUptoCard

/-- THE SECOND FORM's CARD OF 'tolllaw3.LogSums'. -/
def logSumsUptoCard : Claim7 := { stood := { row := logSumsUptoRow, standIns := [], harness := (true, "8226146dd5ac1301fe60adebe1009a9d24412d529fa5853c24564306bb60939e"), looks := true }, kinds := [], alts := [], laidByText := true, laidKinds := [.data, .handle, .pinned], laidTests := true, laidLooks := .later }
def LogSumsUptoCardSaid : Prop := Claim7.holds Tryz.pinned (.plain (OpenSpec.upto logSumsSpec)) logSumsUptoCard

/-- THE SECOND FORM's CARD OF 'tolllaw3.LogBack'. -/
def logBackUptoCard : Claim7 := { stood := { row := logBackUptoRow, standIns := [], harness := (true, "8226146dd5ac1301fe60adebe1009a9d24412d529fa5853c24564306bb60939e"), looks := true }, kinds := [], alts := [], laidByText := true, laidKinds := [.data, .data, .data, .data, .sentinel, .sentinel, .pinned], laidTests := true, laidLooks := .later }
def LogBackUptoCardSaid : Prop := Claim7.holds Tryz.pinned (.plain (OpenSpec.upto logBackSpec)) logBackUptoCard
end Rows
end Go.Proofs.YtcpkikillmmjcaaGreatDoor
