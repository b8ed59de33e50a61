/-
  DERIVED. GIVEN WITH THE SEED: THE CARDS: each row of YtegngpingfjedaaGreatDoorRows.lean that lists a variable, with what it lists TIED to the program's text (the seventh form; the later family's looks); each row that meets fmt, with fmt's text TOLD by the authors' own Lean function (tested against real Go, not proved from fmt's source: count such statements apart). THE CARD IS WHAT COUNTS. Prove the row's statement (the work); the ties are given (YtegngpingfjedaaGreatDoorTie.lean); close each card by the builder's one call (the guide's Derived/Test/ToyasCard.lean, 'card_holds'). Laid BY PROGRAM, IN A SANDBOX (cutbox-door.mjs). By AI agents, Wed Nov 11 2026. No macro, syntax, notation, axiom, sorry.
-/
import Derived.Test.YtegngpingfjedaaGreatDoorRows
import GoSem.ClaimSeven
namespace Go.Proofs.YtegngpingfjedaaGreatDoor
namespace Rows

/-- THE TIED CARD OF 'tolllaw4.ConnUses'. -/
def connUsesCard : Claim7 := { stood := { row := connUsesRow, standIns := [], harness := (true, "6704bb1d36a69cffb1c19f8310f267d620abc7c9cc3af90ed8f2dc56ce17c3a1"), looks := true }, kinds := [], alts := [], laidByText := true, laidKinds := [.handle], laidTests := true, laidLooks := .later }
def ConnUsesCardSaid : Prop := Claim7.holds Tryz.pinned (.plain (OpenSpec.ofChange connUsesSpec)) connUsesCard

/-- THE TIED CARD OF 'tolllaw5.ConnSays'. -/
def connSaysCard : Claim7 := { stood := { row := connSaysRow, standIns := [], harness := (true, "6704bb1d36a69cffb1c19f8310f267d620abc7c9cc3af90ed8f2dc56ce17c3a1"), looks := true }, kinds := [], alts := [], laidByText := true, laidKinds := [.handle], laidTests := true, laidLooks := .later }
def ConnSaysCardSaid : Prop := Claim7.holds Tryz.pinned (.plain (OpenSpec.ofChange connSaysSpec)) connSaysCard

/-- THE TIED CARD OF 'tolllaw4.ConnStops'. -/
def connStopsCard : Claim7 := { stood := { row := connStopsRow, standIns := [], harness := (true, "6704bb1d36a69cffb1c19f8310f267d620abc7c9cc3af90ed8f2dc56ce17c3a1"), looks := true }, kinds := [], alts := [], laidByText := true, laidKinds := [.handle], laidTests := true, laidLooks := .later }
def ConnStopsCardSaid : Prop := Claim7.holds Tryz.pinned (.plain (OpenSpec.ofChange connStopsSpec)) connStopsCard

/-- THE TIED CARD OF 'tolllaw4.ConnFaults'. -/
def connFaultsCard : Claim7 := { stood := { row := connFaultsRow, standIns := [], harness := (true, "6704bb1d36a69cffb1c19f8310f267d620abc7c9cc3af90ed8f2dc56ce17c3a1"), looks := true }, kinds := [], alts := [], laidByText := true, laidKinds := [.handle], laidTests := true, laidLooks := .later }
def ConnFaultsCardSaid : Prop := Claim7.holds Tryz.pinned (.plain (OpenSpec.ofChange connFaultsSpec)) connFaultsCard

/-- THE TIED CARD OF 'tolllaw4.ConnHears'. -/
def connHearsCard : Claim7 := { stood := { row := connHearsRow, standIns := [], harness := (true, "6704bb1d36a69cffb1c19f8310f267d620abc7c9cc3af90ed8f2dc56ce17c3a1"), looks := true }, kinds := [], alts := [], laidByText := true, laidKinds := [.data, .pinned], laidTests := true, laidLooks := .later }
def ConnHearsCardSaid : Prop := Claim7.holds Tryz.pinned (.plain (OpenSpec.ofChange connHearsSpec)) connHearsCard

/-- THE SECOND FORM's CARD OF 'tolllaw4.ConnUses'. -/
def connUsesUptoCard : Claim7 := { stood := { row := connUsesUptoRow, standIns := [], harness := (true, "6704bb1d36a69cffb1c19f8310f267d620abc7c9cc3af90ed8f2dc56ce17c3a1"), looks := true }, kinds := [], alts := [], laidByText := true, laidKinds := [.handle], laidTests := true, laidLooks := .later }
def ConnUsesUptoCardSaid : Prop := Claim7.holds Tryz.pinned (.plain (OpenSpec.upto connUsesSpec)) connUsesUptoCard

/-- THE SECOND FORM's CARD OF 'tolllaw5.ConnSays'. -/
def connSaysUptoCard : Claim7 := { stood := { row := connSaysUptoRow, standIns := [], harness := (true, "6704bb1d36a69cffb1c19f8310f267d620abc7c9cc3af90ed8f2dc56ce17c3a1"), looks := true }, kinds := [], alts := [], laidByText := true, laidKinds := [.handle], laidTests := true, laidLooks := .later }
def ConnSaysUptoCardSaid : Prop := Claim7.holds Tryz.pinned (.plain (OpenSpec.upto connSaysSpec)) connSaysUptoCard

/-- THE SECOND FORM's CARD OF 'tolllaw4.ConnStops'. -/
def connStopsUptoCard : Claim7 := { stood := { row := connStopsUptoRow, standIns := [], harness := (true, "6704bb1d36a69cffb1c19f8310f267d620abc7c9cc3af90ed8f2dc56ce17c3a1"), looks := true }, kinds := [], alts := [], laidByText := true, laidKinds := [.handle], laidTests := true, laidLooks := .later }
def ConnStopsUptoCardSaid : Prop := Claim7.holds Tryz.pinned (.plain (OpenSpec.upto connStopsSpec)) connStopsUptoCard

/-- THE SECOND FORM's CARD OF 'tolllaw4.ConnFaults'. -/
def connFaultsUptoCard : Claim7 := { stood := { row := connFaultsUptoRow, standIns := [], harness := (true, "6704bb1d36a69cffb1c19f8310f267d620abc7c9cc3af90ed8f2dc56ce17c3a1"), looks := true }, kinds := [], alts := [], laidByText := true, laidKinds := [.handle], laidTests := true, laidLooks := .later }
def ConnFaultsUptoCardSaid : Prop := Claim7.holds Tryz.pinned (.plain (OpenSpec.upto connFaultsSpec)) connFaultsUptoCard

/-- THE SECOND FORM's CARD OF 'tolllaw4.ConnHears'. -/
def connHearsUptoCard : Claim7 := { stood := { row := connHearsUptoRow, standIns := [], harness := (true, "6704bb1d36a69cffb1c19f8310f267d620abc7c9cc3af90ed8f2dc56ce17c3a1"), looks := true }, kinds := [], alts := [], laidByText := true, laidKinds := [.data, .pinned], laidTests := true, laidLooks := .later }
def ConnHearsUptoCardSaid : Prop := Claim7.holds Tryz.pinned (.plain (OpenSpec.upto connHearsSpec)) connHearsUptoCard
end Rows
end Go.Proofs.YtegngpingfjedaaGreatDoor
