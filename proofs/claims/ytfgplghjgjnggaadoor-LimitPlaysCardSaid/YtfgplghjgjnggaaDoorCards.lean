/-
  DERIVED. GIVEN WITH THE SEED: THE CARDS: each row of YtfgplghjgjnggaaDoorRows.lean that lists a variable, with what it lists TIED to the program's text (the seventh form; the later family's looks); each row that meets fmt, with fmt's text TOLD by the authors' own Lean function (tested against real Go, not proved from fmt's source: count such statements apart). THE CARD IS WHAT COUNTS. Prove the row's statement (the work); the ties are given (YtfgplghjgjnggaaDoorTie.lean); close each card by the builder's one call (the guide's Derived/Test/ToyasCard.lean, 'card_holds'). Laid BY PROGRAM, IN A SANDBOX (cutbox-door.mjs). By AI agents, Wed Nov 11 2026. No macro, syntax, notation, axiom, sorry.
-/
import Derived.Test.YtfgplghjgjnggaaDoorRows
import GoSem.ClaimSeven
namespace Go.Proofs.YtfgplghjgjnggaaDoor
namespace Rows

/-- THE TIED CARD OF 'tolllaw2.PickPlays'. -/
def pickPlaysCard : Claim7 := { stood := { row := pickPlaysRow, standIns := [], harness := (true, "403dde68b3444951d330582ab18c3c09c7163ff5bf20dcc39d2907e58770eee3"), looks := true }, kinds := [], alts := [], laidByText := true, laidKinds := [.handle], laidTests := true, laidLooks := .later }
def PickPlaysCardSaid : Prop := Claim7.holds Tryd.pinned (.plain (OpenSpec.ofChange pickPlaysSpec)) pickPlaysCard

/-- THE TIED CARD OF 'tolllaw3.LimitPlays'. -/
def limitPlaysCard : Claim7 := { stood := { row := limitPlaysRow, standIns := [], harness := (true, "403dde68b3444951d330582ab18c3c09c7163ff5bf20dcc39d2907e58770eee3"), looks := true }, kinds := [], alts := [], laidByText := true, laidKinds := [.handle], laidTests := true, laidLooks := .later }
def LimitPlaysCardSaid : Prop := Claim7.holds Tryd.pinned (.plain (OpenSpec.ofChange limitPlaysSpec)) limitPlaysCard

/-- THE SECOND FORM's CARD OF 'tolllaw2.PickPlays'. -/
def pickPlaysUptoCard : Claim7 := { stood := { row := pickPlaysUptoRow, standIns := [], harness := (true, "403dde68b3444951d330582ab18c3c09c7163ff5bf20dcc39d2907e58770eee3"), looks := true }, kinds := [], alts := [], laidByText := true, laidKinds := [.handle], laidTests := true, laidLooks := .later }
def PickPlaysUptoCardSaid : Prop := Claim7.holds Tryd.pinned (.plain (OpenSpec.upto pickPlaysSpec)) pickPlaysUptoCard

/-- THE SECOND FORM's CARD OF 'tolllaw3.LimitPlays'. -/
def limitPlaysUptoCard : Claim7 := { stood := { row := limitPlaysUptoRow, standIns := [], harness := (true, "403dde68b3444951d330582ab18c3c09c7163ff5bf20dcc39d2907e58770eee3"), looks := true }, kinds := [], alts := [], laidByText := true, laidKinds := [.handle], laidTests := true, laidLooks := .later }
def LimitPlaysUptoCardSaid : Prop := Claim7.holds Tryd.pinned (.plain (OpenSpec.upto limitPlaysSpec)) limitPlaysUptoCard
end Rows
end Go.Proofs.YtfgplghjgjnggaaDoor
