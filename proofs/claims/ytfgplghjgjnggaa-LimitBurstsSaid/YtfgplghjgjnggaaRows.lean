/-
  No cell of these rows narrows 'for every input' (looked for: loops, veiled, ifaces, maps, wideKeys, modest, calm, conditions, laid).
  DERIVED. THE GIVEN ROWS OF THIS SEAT. 4 by the template 'for every input the law returns true; each argument reads behind the call as it read before'; 0 by the template 'total and deterministic' (their statements: YtfgplghjgjnggaaTotals.lean).
  GIVEN WITH THE SEED: the statements are not yours to turn. If you find one false, say at which input.
  Laid BY PROGRAM, IN A SANDBOX (cutbox-rows.mjs): the forced cells as the released guide's own fill.sh prints them over the translation 2d3df5a87fba65ae… (all of the seat's roots in one cut). By AI agents, Wed Nov 11 2026. No macro, syntax, notation, axiom, sorry.
-/
import Derived.Test.YtfgplghjgjnggaaChecked
import GoSem.Claim
import GoSem.ClaimJoined
import GoSem.ClaimMapViews
import Derived.JoinedTies
import Derived.KernelRfl
namespace Go.Proofs.Ytfgplghjgjnggaa
/- THE CELL 'sum', in the pinned program and in every row, IS THE sha256 OF THE DUMP (.gsa) THAT YtfgplghjgjnggaaProg.lean LOADS. Nothing in Lean hashes anything: it is a label: what it is worth is what the hold of that sum in a sandbox is worth. -/
noncomputable def Try.pinned : Pinned := { name := "ytfgplghjgjnggaa", sum := "2d3df5a87fba65aec22dae790076affc8a226f315bbd8f7981b431c26a5ecebd", checked := Try.checked }
namespace Rows
def none {H : Type} : Left H := { results := [], args := [] }

/-- 'tolllaw5.PickWants': WHATEVER THE INPUT: true; the input reads as it did. -/
def pickWantsSpec : ChangeSpec := { name := "pickWants", fn := fun _ => fun
  | [d] => { results := [.lit (.bool true)], args := [d] }
  | _ => none }
def pickWantsRow : OpenClaim := { program := "ytfgplghjgjnggaa", sum := "2d3df5a87fba65aec22dae790076affc8a226f315bbd8f7981b431c26a5ecebd", func := "tollgate/tolllaw5.PickWants", spec := "pickWants", named := ["math/bits.divideError", "math/bits.overflowError"], apart := false }
def PickWantsSaid : Prop := pickWantsRow.holds Try.pinned (OpenSpec.ofChange pickWantsSpec)

/-- ITS FALSE NEIGHBOUR: 'it returns false'. Refute it at one input. -/
def pickWantsWrong : ChangeSpec := { name := "pickWants", fn := fun _ => fun
  | [d] => { results := [.lit (.bool false)], args := [d] }
  | _ => none }
def PickWantsWrongFalsely : Prop := pickWantsRow.holds Try.pinned (OpenSpec.ofChange pickWantsWrong)

/-- 'tolllaw2.PickFair': WHATEVER THE INPUT: true; the input reads as it did. -/
def pickFairSpec : ChangeSpec := { name := "pickFair", fn := fun _ => fun
  | [d1, d2, d3] => { results := [.lit (.bool true)], args := [d1, d2, d3] }
  | _ => none }
def pickFairRow : OpenClaim := { program := "ytfgplghjgjnggaa", sum := "2d3df5a87fba65aec22dae790076affc8a226f315bbd8f7981b431c26a5ecebd", func := "tollgate/tolllaw2.PickFair", spec := "pickFair", named := ["math/bits.divideError", "math/bits.overflowError"], apart := false }
def PickFairSaid : Prop := pickFairRow.holds Try.pinned (OpenSpec.ofChange pickFairSpec)

/-- ITS FALSE NEIGHBOUR: 'it returns false'. Refute it at one input. -/
def pickFairWrong : ChangeSpec := { name := "pickFair", fn := fun _ => fun
  | [d1, d2, d3] => { results := [.lit (.bool false)], args := [d1, d2, d3] }
  | _ => none }
def PickFairWrongFalsely : Prop := pickFairRow.holds Try.pinned (OpenSpec.ofChange pickFairWrong)

/-- 'tolllaw3.LimitHolds': WHATEVER THE INPUT: true; the input reads as it did. -/
def limitHoldsSpec : ChangeSpec := { name := "limitHolds", fn := fun _ => fun
  | [d1, d2, d3, d4] => { results := [.lit (.bool true)], args := [d1, d2, d3, d4] }
  | _ => none }
def limitHoldsRow : OpenClaim := { program := "ytfgplghjgjnggaa", sum := "2d3df5a87fba65aec22dae790076affc8a226f315bbd8f7981b431c26a5ecebd", func := "tollgate/tolllaw3.LimitHolds", spec := "limitHolds", apart := false }
def LimitHoldsSaid : Prop := limitHoldsRow.holds Try.pinned (OpenSpec.ofChange limitHoldsSpec)

/-- ITS FALSE NEIGHBOUR: 'it returns false'. Refute it at one input. -/
def limitHoldsWrong : ChangeSpec := { name := "limitHolds", fn := fun _ => fun
  | [d1, d2, d3, d4] => { results := [.lit (.bool false)], args := [d1, d2, d3, d4] }
  | _ => none }
def LimitHoldsWrongFalsely : Prop := limitHoldsRow.holds Try.pinned (OpenSpec.ofChange limitHoldsWrong)

/-- 'tolllaw5.LimitBursts': WHATEVER THE INPUT: true; the input reads as it did. -/
def limitBurstsSpec : ChangeSpec := { name := "limitBursts", fn := fun _ => fun
  | [d1, d2, d3] => { results := [.lit (.bool true)], args := [d1, d2, d3] }
  | _ => none }
def limitBurstsRow : OpenClaim := { program := "ytfgplghjgjnggaa", sum := "2d3df5a87fba65aec22dae790076affc8a226f315bbd8f7981b431c26a5ecebd", func := "tollgate/tolllaw5.LimitBursts", spec := "limitBursts", unfollowed := true, recurses := true, apart := false }
def LimitBurstsSaid : Prop := limitBurstsRow.holds Try.pinned (OpenSpec.ofChange limitBurstsSpec)

/-- ITS FALSE NEIGHBOUR: 'it returns false'. Refute it at one input. -/
def limitBurstsWrong : ChangeSpec := { name := "limitBursts", fn := fun _ => fun
  | [d1, d2, d3] => { results := [.lit (.bool false)], args := [d1, d2, d3] }
  | _ => none }
def LimitBurstsWrongFalsely : Prop := limitBurstsRow.holds Try.pinned (OpenSpec.ofChange limitBurstsWrong)

/- THE SECOND FORM. 'bulk': how many values and letters a reading holds, each counted each time it is reached (what is shared counts as often as it is met; a slice's spare places count too). A statement '..UptoSaid' is the law's where the arguments, and the package variables that the reading takes, are together of bulk at most 1048576: NARROWER than '..Said'. Prove '..Said' where nothing that the law and all that it calls make is longer than what came in: it says more and counts as full. Else prove '..UptoSaid'. A law counts once. -/
mutual
def uptoBulk {H : Type} : DataW H → Nat
  | .lit (.string bytes) => bytes.length + 1
  | .lit _ => 1
  | .nil => 1
  | .ptr d => uptoBulk d + 1
  | .slice elems spare => uptoBulkAll elems + uptoBulkAll spare + 1
  | .agg parts => uptoBulkAll parts + 1
  | .iface _ d => uptoBulk d + 1
  | .map entries => uptoBulkEntries entries + 1
  | .held _ => 1
def uptoBulkAll {H : Type} : List (DataW H) → Nat
  | [] => 0
  | d :: r => uptoBulk d + uptoBulkAll r
def uptoBulkEntries {H : Type} : List (Lit × DataW H) → Nat
  | [] => 0
  | x :: r => uptoBulkEntry x + uptoBulkEntries r
def uptoBulkEntry {H : Type} : Lit × DataW H → Nat
  | (.string bytes, d) => bytes.length + uptoBulk d + 1
  | (_, d) => uptoBulk d + 1
 end
def uptoSmall : (H : Type) → List (DataW H) → Bool := fun _ ds => decide (uptoBulkAll ds ≤ 1048576)
def OpenSpec.upto (s : _root_.Go.ChangeSpec) : _root_.Go.OpenSpec := { _root_.Go.OpenSpec.ofChange s with cond := some uptoSmall }

/-- 'tolllaw5.PickWants', WHERE WHAT IT READS IS OF BULK AT MOST 1048576: true; the input reads as it did. -/
def pickWantsUptoRow : OpenClaim := { program := "ytfgplghjgjnggaa", sum := "2d3df5a87fba65aec22dae790076affc8a226f315bbd8f7981b431c26a5ecebd", func := "tollgate/tolllaw5.PickWants", spec := "pickWants", named := ["math/bits.divideError", "math/bits.overflowError"], apart := false, narrowed := true }
def PickWantsUptoSaid : Prop := pickWantsUptoRow.holds Try.pinned (OpenSpec.upto pickWantsSpec)

/-- 'tolllaw2.PickFair', WHERE WHAT IT READS IS OF BULK AT MOST 1048576: true; the input reads as it did. -/
def pickFairUptoRow : OpenClaim := { program := "ytfgplghjgjnggaa", sum := "2d3df5a87fba65aec22dae790076affc8a226f315bbd8f7981b431c26a5ecebd", func := "tollgate/tolllaw2.PickFair", spec := "pickFair", named := ["math/bits.divideError", "math/bits.overflowError"], apart := false, narrowed := true }
def PickFairUptoSaid : Prop := pickFairUptoRow.holds Try.pinned (OpenSpec.upto pickFairSpec)

/-- 'tolllaw3.LimitHolds', WHERE WHAT IT READS IS OF BULK AT MOST 1048576: true; the input reads as it did. -/
def limitHoldsUptoRow : OpenClaim := { program := "ytfgplghjgjnggaa", sum := "2d3df5a87fba65aec22dae790076affc8a226f315bbd8f7981b431c26a5ecebd", func := "tollgate/tolllaw3.LimitHolds", spec := "limitHolds", apart := false, narrowed := true }
def LimitHoldsUptoSaid : Prop := limitHoldsUptoRow.holds Try.pinned (OpenSpec.upto limitHoldsSpec)

/-- 'tolllaw5.LimitBursts', WHERE WHAT IT READS IS OF BULK AT MOST 1048576: true; the input reads as it did. -/
def limitBurstsUptoRow : OpenClaim := { program := "ytfgplghjgjnggaa", sum := "2d3df5a87fba65aec22dae790076affc8a226f315bbd8f7981b431c26a5ecebd", func := "tollgate/tolllaw5.LimitBursts", spec := "limitBursts", unfollowed := true, recurses := true, apart := false, narrowed := true }
def LimitBurstsUptoSaid : Prop := limitBurstsUptoRow.holds Try.pinned (OpenSpec.upto limitBurstsSpec)

end Rows
end Go.Proofs.Ytfgplghjgjnggaa
