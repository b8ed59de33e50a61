/-
  DERIVED. GIVEN WITH THE SEED: THE CARDS: each row of YtijbploeleaabaaDoorRows.lean that lists a variable, with what it lists TIED to the program's text (the seventh form; the later family's looks); each row that meets fmt, with fmt's text TOLD by the authors' own Lean function (tested against real Go, not proved from fmt's source: count such statements apart). THE CARD IS WHAT COUNTS. Prove the row's statement (the work); the ties are given (YtijbploeleaabaaDoorTie.lean); close each card by the builder's one call (the guide's Derived/Test/ToyasCard.lean, 'card_holds'). Laid BY PROGRAM, IN A SANDBOX (cutbox-door.mjs). By AI agents, Wed Nov 11 2026. No macro, syntax, notation, axiom, sorry.
-/
import Derived.Test.YtijbploeleaabaaDoorRows
import GoSem.ClaimSeven
namespace Go.Proofs.YtijbploeleaabaaDoor
namespace Rows

/-- THE TIED CARD OF 'tolllaw5.RouteWhole'. -/
def routeWholeCard : Claim7 := { stood := { row := routeWholeRow, standIns := [], harness := (true, "e31bad09079a6f15626e98770eae16cfd5983fd2b098bbde78e20266730fe53c"), looks := true }, kinds := [], alts := [], laidByText := true, laidKinds := [.data, .pinned], laidTests := true, laidLooks := .later }
def RouteWholeCardSaid : Prop := Claim7.holds Tryd.pinned (.plain (OpenSpec.ofChange routeWholeSpec)) routeWholeCard

/-- THE TIED CARD OF 'tolllaw3.RouteBack'. -/
def routeBackCard : Claim7 := { stood := { row := routeBackRow, standIns := [], harness := (true, "e31bad09079a6f15626e98770eae16cfd5983fd2b098bbde78e20266730fe53c"), looks := true }, kinds := [], alts := [], laidByText := true, laidKinds := [.data, .pinned], laidTests := true, laidLooks := .later }
def RouteBackCardSaid : Prop := Claim7.holds Tryd.pinned (.plain (OpenSpec.ofChange routeBackSpec)) routeBackCard

/-- THE TIED CARD OF 'tolllaw3.RouteFinds'. -/
def routeFindsCard : Claim7 := { stood := { row := routeFindsRow, standIns := [], harness := (true, "e31bad09079a6f15626e98770eae16cfd5983fd2b098bbde78e20266730fe53c"), looks := true }, kinds := [], alts := [], laidByText := true, laidKinds := [.data, .handle, .pinned], laidTests := true, laidLooks := .later }
def RouteFindsCardSaid : Prop := Claim7.holds Tryd.pinned (.plain (OpenSpec.ofChange routeFindsSpec)) routeFindsCard

/-- THE TIED CARD OF 'tolllaw3.RouteParses'. -/
def routeParsesCard : Claim7 := { stood := { row := routeParsesRow, standIns := [], harness := (true, "e31bad09079a6f15626e98770eae16cfd5983fd2b098bbde78e20266730fe53c"), looks := true }, kinds := [], alts := [], laidByText := true, laidKinds := [.data, .handle, .pinned], laidTests := true, laidLooks := .later }
def RouteParsesCardSaid : Prop := Claim7.holds Tryd.pinned (.plain (OpenSpec.ofChange routeParsesSpec)) routeParsesCard

/-- THE SECOND FORM's CARD OF 'tolllaw5.RouteWhole'. -/
def routeWholeUptoCard : Claim7 := { stood := { row := routeWholeUptoRow, standIns := [], harness := (true, "e31bad09079a6f15626e98770eae16cfd5983fd2b098bbde78e20266730fe53c"), looks := true }, kinds := [], alts := [], laidByText := true, laidKinds := [.data, .pinned], laidTests := true, laidLooks := .later }
def RouteWholeUptoCardSaid : Prop := Claim7.holds Tryd.pinned (.plain (OpenSpec.upto routeWholeSpec)) routeWholeUptoCard

/-- THE SECOND FORM's CARD OF 'tolllaw3.RouteBack'. -/
def routeBackUptoCard : Claim7 := { stood := { row := routeBackUptoRow, standIns := [], harness := (true, "e31bad09079a6f15626e98770eae16cfd5983fd2b098bbde78e20266730fe53c"), looks := true }, kinds := [], alts := [], laidByText := true, laidKinds := [.data, .pinned], laidTests := true, laidLooks := .later }
def RouteBackUptoCardSaid : Prop := Claim7.holds Tryd.pinned (.plain (OpenSpec.upto routeBackSpec)) routeBackUptoCard

/-- THE SECOND FORM's CARD OF 'tolllaw3.RouteFinds'. -/
def routeFindsUptoCard : Claim7 := { stood := { row := routeFindsUptoRow, standIns := [], harness := (true, "e31bad09079a6f15626e98770eae16cfd5983fd2b098bbde78e20266730fe53c"), looks := true }, kinds := [], alts := [], laidByText := true, laidKinds := [.data, .handle, .pinned], laidTests := true, laidLooks := .later }
def RouteFindsUptoCardSaid : Prop := Claim7.holds Tryd.pinned (.plain (OpenSpec.upto routeFindsSpec)) routeFindsUptoCard

/-- THE SECOND FORM's CARD OF 'tolllaw3.RouteParses'. -/
def routeParsesUptoCard : Claim7 := { stood := { row := routeParsesUptoRow, standIns := [], harness := (true, "e31bad09079a6f15626e98770eae16cfd5983fd2b098bbde78e20266730fe53c"), looks := true }, kinds := [], alts := [], laidByText := true, laidKinds := [.data, .handle, .pinned], laidTests := true, laidLooks := .later }
def RouteParsesUptoCardSaid : Prop := Claim7.holds Tryd.pinned (.plain (OpenSpec.upto routeParsesSpec)) routeParsesUptoCard
end Rows
end Go.Proofs.YtijbploeleaabaaDoor
