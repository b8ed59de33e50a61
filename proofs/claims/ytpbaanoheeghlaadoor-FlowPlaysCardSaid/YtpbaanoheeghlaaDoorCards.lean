/-
  DERIVED. GIVEN WITH THE SEED: THE CARDS: each row of YtpbaanoheeghlaaDoorRows.lean that lists a variable, with what it lists TIED to the program's text (the seventh form; the later family's looks); each row that meets fmt, with fmt's text TOLD by the authors' own Lean function (tested against real Go, not proved from fmt's source: count such statements apart). THE CARD IS WHAT COUNTS. Prove the row's statement (the work); the ties are given (YtpbaanoheeghlaaDoorTie.lean); close each card by the builder's one call (the guide's Derived/Test/ToyasCard.lean, 'card_holds'). Laid BY PROGRAM, IN A SANDBOX (cutbox-door.mjs). By AI agents, Wed Nov 11 2026. No macro, syntax, notation, axiom, sorry.
-/
import Derived.Test.YtpbaanoheeghlaaDoorRows
import GoSem.ClaimSeven
namespace Go.Proofs.YtpbaanoheeghlaaDoor
namespace Rows

/-- THE TIED CARD OF 'tolllaw2.FlowPlays'. -/
def flowPlaysCard : Claim7 := { stood := { row := flowPlaysRow, standIns := [], harness := (true, "5b4c630d127fbf6202d6d998fc904d539546e0556c872ee4b468c7bb4a3d02ac"), looks := true }, kinds := [], alts := [], laidByText := true, laidKinds := [.handle], laidTests := true, laidLooks := .later }
def FlowPlaysCardSaid : Prop := Claim7.holds Tryd.pinned (.plain (OpenSpec.ofChange flowPlaysSpec)) flowPlaysCard

/-- THE TIED CARD OF 'tolllaw2.StreamSteps'. -/
def streamStepsCard : Claim7 := { stood := { row := streamStepsRow, standIns := [], harness := (true, "5b4c630d127fbf6202d6d998fc904d539546e0556c872ee4b468c7bb4a3d02ac"), looks := true }, kinds := [], alts := [], laidByText := true, laidKinds := [.handle], laidTests := true, laidLooks := .later }
def StreamStepsCardSaid : Prop := Claim7.holds Tryd.pinned (.plain (OpenSpec.ofChange streamStepsSpec)) streamStepsCard

/-- THE SECOND FORM's CARD OF 'tolllaw2.FlowPlays'. -/
def flowPlaysUptoCard : Claim7 := { stood := { row := flowPlaysUptoRow, standIns := [], harness := (true, "5b4c630d127fbf6202d6d998fc904d539546e0556c872ee4b468c7bb4a3d02ac"), looks := true }, kinds := [], alts := [], laidByText := true, laidKinds := [.handle], laidTests := true, laidLooks := .later }
def FlowPlaysUptoCardSaid : Prop := Claim7.holds Tryd.pinned (.plain (OpenSpec.upto flowPlaysSpec)) flowPlaysUptoCard

/-- THE SECOND FORM's CARD OF 'tolllaw2.StreamSteps'. -/
def streamStepsUptoCard : Claim7 := { stood := { row := streamStepsUptoRow, standIns := [], harness := (true, "5b4c630d127fbf6202d6d998fc904d539546e0556c872ee4b468c7bb4a3d02ac"), looks := true }, kinds := [], alts := [], laidByText := true, laidKinds := [.handle], laidTests := true, laidLooks := .later }
def StreamStepsUptoCardSaid : Prop := Claim7.holds Tryd.pinned (.plain (OpenSpec.upto streamStepsSpec)) streamStepsUptoCard
end Rows
end Go.Proofs.YtpbaanoheeghlaaDoor
