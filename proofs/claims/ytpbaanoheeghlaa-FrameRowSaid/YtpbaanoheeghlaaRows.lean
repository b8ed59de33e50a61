/-
  No cell of these rows narrows 'for every input' (looked for: loops, veiled, ifaces, maps, wideKeys, modest, calm, conditions, laid).
  DERIVED. THE GIVEN ROWS OF THIS SEAT. 8 by the template 'for every input the law returns true; each argument reads behind the call as it read before'; 0 by the template 'total and deterministic' (their statements: YtpbaanoheeghlaaTotals.lean).
  GIVEN WITH THE SEED: the statements are not yours to turn. If you find one false, say at which input.
  Laid BY PROGRAM, IN A SANDBOX (cutbox-rows.mjs): the forced cells as the released guide's own fill.sh prints them over the translation fc3aa2abeb8e5277… (all of the seat's roots in one cut). By AI agents, Wed Nov 11 2026. No macro, syntax, notation, axiom, sorry.
-/
import Derived.Test.YtpbaanoheeghlaaChecked
import GoSem.Claim
import GoSem.ClaimJoined
import GoSem.ClaimMapViews
import Derived.JoinedTies
import Derived.KernelRfl
namespace Go.Proofs.Ytpbaanoheeghlaa
/- THE CELL 'sum', in the pinned program and in every row, IS THE sha256 OF THE DUMP (.gsa) THAT YtpbaanoheeghlaaProg.lean LOADS. Nothing in Lean hashes anything: it is a label: what it is worth is what the hold of that sum in a sandbox is worth. -/
noncomputable def Try.pinned : Pinned := { name := "ytpbaanoheeghlaa", sum := "fc3aa2abeb8e5277191f0f0253908bbb6a9a019bec2f595e3a959c87b1e61295", checked := Try.checked }
namespace Rows
def none {H : Type} : Left H := { results := [], args := [] }

/-- 'tolllaw2.FlowDue': WHATEVER THE INPUT: true; the input reads as it did. -/
def flowDueSpec : ChangeSpec := { name := "flowDue", fn := fun _ => fun
  | [d1, d2] => { results := [.lit (.bool true)], args := [d1, d2] }
  | _ => none }
def flowDueRow : OpenClaim := { program := "ytpbaanoheeghlaa", sum := "fc3aa2abeb8e5277191f0f0253908bbb6a9a019bec2f595e3a959c87b1e61295", func := "tollgate/tolllaw2.FlowDue", spec := "flowDue", apart := false }
def FlowDueSaid : Prop := flowDueRow.holds Try.pinned (OpenSpec.ofChange flowDueSpec)

/-- ITS FALSE NEIGHBOUR: 'it returns false'. Refute it at one input. -/
def flowDueWrong : ChangeSpec := { name := "flowDue", fn := fun _ => fun
  | [d1, d2] => { results := [.lit (.bool false)], args := [d1, d2] }
  | _ => none }
def FlowDueWrongFalsely : Prop := flowDueRow.holds Try.pinned (OpenSpec.ofChange flowDueWrong)

/-- 'tolllaw5.WireGrows': WHATEVER THE INPUT: true; the input reads as it did. -/
def wireGrowsSpec : ChangeSpec := { name := "wireGrows", fn := fun _ => fun
  | [d1, d2, d3] => { results := [.lit (.bool true)], args := [d1, d2, d3] }
  | _ => none }
def wireGrowsRow : OpenClaim := { program := "ytpbaanoheeghlaa", sum := "fc3aa2abeb8e5277191f0f0253908bbb6a9a019bec2f595e3a959c87b1e61295", func := "tollgate/tolllaw5.WireGrows", spec := "wireGrows", apart := false }
def WireGrowsSaid : Prop := wireGrowsRow.holds Try.pinned (OpenSpec.ofChange wireGrowsSpec)

/-- ITS FALSE NEIGHBOUR: 'it returns false'. Refute it at one input. -/
def wireGrowsWrong : ChangeSpec := { name := "wireGrows", fn := fun _ => fun
  | [d1, d2, d3] => { results := [.lit (.bool false)], args := [d1, d2, d3] }
  | _ => none }
def WireGrowsWrongFalsely : Prop := wireGrowsRow.holds Try.pinned (OpenSpec.ofChange wireGrowsWrong)

/-- 'tolllaw5.FlowSums': WHATEVER THE INPUT: true; the input reads as it did. -/
def flowSumsSpec : ChangeSpec := { name := "flowSums", fn := fun _ => fun
  | [d1, d2] => { results := [.lit (.bool true)], args := [d1, d2] }
  | _ => none }
def flowSumsRow : OpenClaim := { program := "ytpbaanoheeghlaa", sum := "fc3aa2abeb8e5277191f0f0253908bbb6a9a019bec2f595e3a959c87b1e61295", func := "tollgate/tolllaw5.FlowSums", spec := "flowSums", apart := false }
def FlowSumsSaid : Prop := flowSumsRow.holds Try.pinned (OpenSpec.ofChange flowSumsSpec)

/-- ITS FALSE NEIGHBOUR: 'it returns false'. Refute it at one input. -/
def flowSumsWrong : ChangeSpec := { name := "flowSums", fn := fun _ => fun
  | [d1, d2] => { results := [.lit (.bool false)], args := [d1, d2] }
  | _ => none }
def FlowSumsWrongFalsely : Prop := flowSumsRow.holds Try.pinned (OpenSpec.ofChange flowSumsWrong)

/-- 'tolllaw5.StreamsFull': WHATEVER THE INPUT: true; the input reads as it did. -/
def streamsFullSpec : ChangeSpec := { name := "streamsFull", fn := fun _ => fun
  | [d1, d2] => { results := [.lit (.bool true)], args := [d1, d2] }
  | _ => none }
def streamsFullRow : OpenClaim := { program := "ytpbaanoheeghlaa", sum := "fc3aa2abeb8e5277191f0f0253908bbb6a9a019bec2f595e3a959c87b1e61295", func := "tollgate/tolllaw5.StreamsFull", spec := "streamsFull", apart := false }
def StreamsFullSaid : Prop := streamsFullRow.holds Try.pinned (OpenSpec.ofChange streamsFullSpec)

/-- ITS FALSE NEIGHBOUR: 'it returns false'. Refute it at one input. -/
def streamsFullWrong : ChangeSpec := { name := "streamsFull", fn := fun _ => fun
  | [d1, d2] => { results := [.lit (.bool false)], args := [d1, d2] }
  | _ => none }
def StreamsFullWrongFalsely : Prop := streamsFullRow.holds Try.pinned (OpenSpec.ofChange streamsFullWrong)

/-- 'tolllaw2.StreamsSeen': WHATEVER THE INPUT: true; the input reads as it did. -/
def streamsSeenSpec : ChangeSpec := { name := "streamsSeen", fn := fun _ => fun
  | [d] => { results := [.lit (.bool true)], args := [d] }
  | _ => none }
def streamsSeenRow : OpenClaim := { program := "ytpbaanoheeghlaa", sum := "fc3aa2abeb8e5277191f0f0253908bbb6a9a019bec2f595e3a959c87b1e61295", func := "tollgate/tolllaw2.StreamsSeen", spec := "streamsSeen", apart := false }
def StreamsSeenSaid : Prop := streamsSeenRow.holds Try.pinned (OpenSpec.ofChange streamsSeenSpec)

/-- ITS FALSE NEIGHBOUR: 'it returns false'. Refute it at one input. -/
def streamsSeenWrong : ChangeSpec := { name := "streamsSeen", fn := fun _ => fun
  | [d] => { results := [.lit (.bool false)], args := [d] }
  | _ => none }
def StreamsSeenWrongFalsely : Prop := streamsSeenRow.holds Try.pinned (OpenSpec.ofChange streamsSeenWrong)

/-- 'tolllaw5.CodeShort': WHATEVER THE INPUT: true; the input reads as it did. -/
def codeShortSpec : ChangeSpec := { name := "codeShort", fn := fun _ => fun
  | [d1, d2] => { results := [.lit (.bool true)], args := [d1, d2] }
  | _ => none }
def codeShortRow : OpenClaim := { program := "ytpbaanoheeghlaa", sum := "fc3aa2abeb8e5277191f0f0253908bbb6a9a019bec2f595e3a959c87b1e61295", func := "tollgate/tolllaw5.CodeShort", spec := "codeShort", inPlace := ["internal/bytealg.IndexByteString"], apart := false }
def CodeShortSaid : Prop := codeShortRow.holds Try.pinned (OpenSpec.ofChange codeShortSpec)

/-- ITS FALSE NEIGHBOUR: 'it returns false'. Refute it at one input. -/
def codeShortWrong : ChangeSpec := { name := "codeShort", fn := fun _ => fun
  | [d1, d2] => { results := [.lit (.bool false)], args := [d1, d2] }
  | _ => none }
def CodeShortWrongFalsely : Prop := codeShortRow.holds Try.pinned (OpenSpec.ofChange codeShortWrong)

/-- 'tolllaw2.StreamEnds': WHATEVER THE INPUT: true; the input reads as it did. -/
def streamEndsSpec : ChangeSpec := { name := "streamEnds", fn := fun _ => fun
  | [d1, d2, d3] => { results := [.lit (.bool true)], args := [d1, d2, d3] }
  | _ => none }
def streamEndsRow : OpenClaim := { program := "ytpbaanoheeghlaa", sum := "fc3aa2abeb8e5277191f0f0253908bbb6a9a019bec2f595e3a959c87b1e61295", func := "tollgate/tolllaw2.StreamEnds", spec := "streamEnds", apart := false }
def StreamEndsSaid : Prop := streamEndsRow.holds Try.pinned (OpenSpec.ofChange streamEndsSpec)

/-- ITS FALSE NEIGHBOUR: 'it returns false'. Refute it at one input. -/
def streamEndsWrong : ChangeSpec := { name := "streamEnds", fn := fun _ => fun
  | [d1, d2, d3] => { results := [.lit (.bool false)], args := [d1, d2, d3] }
  | _ => none }
def StreamEndsWrongFalsely : Prop := streamEndsRow.holds Try.pinned (OpenSpec.ofChange streamEndsWrong)

/-- 'tolllaw5.FrameRow': WHATEVER THE INPUT: true; the input reads as it did. -/
def frameRowSpec : ChangeSpec := { name := "frameRow", fn := fun _ => fun
  | [d] => { results := [.lit (.bool true)], args := [d] }
  | _ => none }
def frameRowRow : OpenClaim := { program := "ytpbaanoheeghlaa", sum := "fc3aa2abeb8e5277191f0f0253908bbb6a9a019bec2f595e3a959c87b1e61295", func := "tollgate/tolllaw5.FrameRow", spec := "frameRow", apart := false }
def FrameRowSaid : Prop := frameRowRow.holds Try.pinned (OpenSpec.ofChange frameRowSpec)

/-- ITS FALSE NEIGHBOUR: 'it returns false'. Refute it at one input. -/
def frameRowWrong : ChangeSpec := { name := "frameRow", fn := fun _ => fun
  | [d] => { results := [.lit (.bool false)], args := [d] }
  | _ => none }
def FrameRowWrongFalsely : Prop := frameRowRow.holds Try.pinned (OpenSpec.ofChange frameRowWrong)

/- THE SECOND FORM. 'bulk': how many values and letters a reading holds, each counted each time it is reached (what is shared counts as often as it is met; a slice's spare places count too). A statement '..UptoSaid' is the law's where the arguments, and the package variables that the reading takes, are together of bulk at most 1048576: NARROWER than '..Said'. Prove '..Said' where nothing that the law and all that it calls make is longer than what came in: it says more and counts as full. Else prove '..UptoSaid'. A law counts once. -/
mutual
def uptoBulk {H : Type} : DataW H → Nat
  | .lit (.string bytes) => bytes.length + 1
  | .lit _ => 1
  | .nil => 1
  | .ptr d => uptoBulk d + 1
  | .slice elems spare => uptoBulkAll elems + uptoBulkAll spare + 1
  | .agg parts => uptoBulkAll parts + 1
  | .iface _ d => uptoBulk d + 1
  | .map entries => uptoBulkEntries entries + 1
  | .held _ => 1
def uptoBulkAll {H : Type} : List (DataW H) → Nat
  | [] => 0
  | d :: r => uptoBulk d + uptoBulkAll r
def uptoBulkEntries {H : Type} : List (Lit × DataW H) → Nat
  | [] => 0
  | x :: r => uptoBulkEntry x + uptoBulkEntries r
def uptoBulkEntry {H : Type} : Lit × DataW H → Nat
  | (.string bytes, d) => bytes.length + uptoBulk d + 1
  | (_, d) => uptoBulk d + 1
 end
def uptoSmall : (H : Type) → List (DataW H) → Bool := fun _ ds => decide (uptoBulkAll ds ≤ 1048576)
def OpenSpec.upto (s : _root_.Go.ChangeSpec) : _root_.Go.OpenSpec := { _root_.Go.OpenSpec.ofChange s with cond := some uptoSmall }

/-- 'tolllaw2.FlowDue', WHERE WHAT IT READS IS OF BULK AT MOST 1048576: true; the input reads as it did. -/
def flowDueUptoRow : OpenClaim := { program := "ytpbaanoheeghlaa", sum := "fc3aa2abeb8e5277191f0f0253908bbb6a9a019bec2f595e3a959c87b1e61295", func := "tollgate/tolllaw2.FlowDue", spec := "flowDue", apart := false, narrowed := true }
def FlowDueUptoSaid : Prop := flowDueUptoRow.holds Try.pinned (OpenSpec.upto flowDueSpec)

/-- 'tolllaw5.WireGrows', WHERE WHAT IT READS IS OF BULK AT MOST 1048576: true; the input reads as it did. -/
def wireGrowsUptoRow : OpenClaim := { program := "ytpbaanoheeghlaa", sum := "fc3aa2abeb8e5277191f0f0253908bbb6a9a019bec2f595e3a959c87b1e61295", func := "tollgate/tolllaw5.WireGrows", spec := "wireGrows", apart := false, narrowed := true }
def WireGrowsUptoSaid : Prop := wireGrowsUptoRow.holds Try.pinned (OpenSpec.upto wireGrowsSpec)

/-- 'tolllaw5.FlowSums', WHERE WHAT IT READS IS OF BULK AT MOST 1048576: true; the input reads as it did. -/
def flowSumsUptoRow : OpenClaim := { program := "ytpbaanoheeghlaa", sum := "fc3aa2abeb8e5277191f0f0253908bbb6a9a019bec2f595e3a959c87b1e61295", func := "tollgate/tolllaw5.FlowSums", spec := "flowSums", apart := false, narrowed := true }
def FlowSumsUptoSaid : Prop := flowSumsUptoRow.holds Try.pinned (OpenSpec.upto flowSumsSpec)

/-- 'tolllaw5.StreamsFull', WHERE WHAT IT READS IS OF BULK AT MOST 1048576: true; the input reads as it did. -/
def streamsFullUptoRow : OpenClaim := { program := "ytpbaanoheeghlaa", sum := "fc3aa2abeb8e5277191f0f0253908bbb6a9a019bec2f595e3a959c87b1e61295", func := "tollgate/tolllaw5.StreamsFull", spec := "streamsFull", apart := false, narrowed := true }
def StreamsFullUptoSaid : Prop := streamsFullUptoRow.holds Try.pinned (OpenSpec.upto streamsFullSpec)

/-- 'tolllaw2.StreamsSeen', WHERE WHAT IT READS IS OF BULK AT MOST 1048576: true; the input reads as it did. -/
def streamsSeenUptoRow : OpenClaim := { program := "ytpbaanoheeghlaa", sum := "fc3aa2abeb8e5277191f0f0253908bbb6a9a019bec2f595e3a959c87b1e61295", func := "tollgate/tolllaw2.StreamsSeen", spec := "streamsSeen", apart := false, narrowed := true }
def StreamsSeenUptoSaid : Prop := streamsSeenUptoRow.holds Try.pinned (OpenSpec.upto streamsSeenSpec)

/-- 'tolllaw5.CodeShort', WHERE WHAT IT READS IS OF BULK AT MOST 1048576: true; the input reads as it did. -/
def codeShortUptoRow : OpenClaim := { program := "ytpbaanoheeghlaa", sum := "fc3aa2abeb8e5277191f0f0253908bbb6a9a019bec2f595e3a959c87b1e61295", func := "tollgate/tolllaw5.CodeShort", spec := "codeShort", inPlace := ["internal/bytealg.IndexByteString"], apart := false, narrowed := true }
def CodeShortUptoSaid : Prop := codeShortUptoRow.holds Try.pinned (OpenSpec.upto codeShortSpec)

/-- 'tolllaw2.StreamEnds', WHERE WHAT IT READS IS OF BULK AT MOST 1048576: true; the input reads as it did. -/
def streamEndsUptoRow : OpenClaim := { program := "ytpbaanoheeghlaa", sum := "fc3aa2abeb8e5277191f0f0253908bbb6a9a019bec2f595e3a959c87b1e61295", func := "tollgate/tolllaw2.StreamEnds", spec := "streamEnds", apart := false, narrowed := true }
def StreamEndsUptoSaid : Prop := streamEndsUptoRow.holds Try.pinned (OpenSpec.upto streamEndsSpec)

/-- 'tolllaw5.FrameRow', WHERE WHAT IT READS IS OF BULK AT MOST 1048576: true; the input reads as it did. -/
def frameRowUptoRow : OpenClaim := { program := "ytpbaanoheeghlaa", sum := "fc3aa2abeb8e5277191f0f0253908bbb6a9a019bec2f595e3a959c87b1e61295", func := "tollgate/tolllaw5.FrameRow", spec := "frameRow", apart := false, narrowed := true }
def FrameRowUptoSaid : Prop := frameRowUptoRow.holds Try.pinned (OpenSpec.upto frameRowSpec)

end Rows
end Go.Proofs.Ytpbaanoheeghlaa
