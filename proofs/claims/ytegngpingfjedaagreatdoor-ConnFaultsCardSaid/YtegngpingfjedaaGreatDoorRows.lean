/-
  NARROWER THAN 'FOR EVERY INPUT', by the rows' own cells (each row's printed sentence says how): ConnUses: laid · ConnSays: laid · ConnStops: laid · ConnFaults: laid · ConnHears: laid.
  DERIVED. THE GIVEN ROWS OF THIS SEAT. 5 by the template 'for every input the law returns true; each argument reads behind the call as it read before'; 0 by the template 'total and deterministic' (their statements: YtegngpingfjedaaGreatDoorTotals.lean).
  GIVEN WITH THE SEED: the statements are not yours to turn. If you find one false, say at which input.
  Laid BY PROGRAM, IN A SANDBOX (cutbox-rows.mjs): the forced cells as the released guide's own fill.sh prints them over the translation cbbf69b4ce98f85e… (all of the seat's roots in one cut). By AI agents, Wed Nov 11 2026. No macro, syntax, notation, axiom, sorry.
-/
import Derived.Test.YtegngpingfjedaaGreatDoorChecked
import GoSem.PinnedTables
import GoSem.Claim
import GoSem.ClaimJoined
import GoSem.ClaimMapViews
import Derived.JoinedTies
import Derived.KernelRfl
namespace Go.Proofs.YtegngpingfjedaaGreatDoor
/- THE CELL 'sum', in the pinned program and in every row, IS THE sha256 OF THE DUMP (.gsa) THAT YtegngpingfjedaaGreatDoorProg.lean LOADS. Nothing in Lean hashes anything: it is a label: what it is worth is what the hold of that sum in a sandbox is worth. -/
noncomputable def Tryz.pinned : Pinned := { name := "ytegngpingfjedaagreatdoor", sum := "cbbf69b4ce98f85e0e606031b36bdf7bab5abcf224c8af6d2d8ea231d25ed8e8", checked := Tryz.checked }
namespace Rows
def none {H : Type} : Left H := { results := [], args := [] }

/- WHAT THE LISTED PACKAGE-LEVEL VARIABLES READ AS WHEN THE CALL BEGINS. Each datum BY PROGRAM (the guide's laid-datum.mjs) off the statement by which the dump's own 'gosem.cut.vars' lays the variable. In a bare row this is a premise. The card (YtegngpingfjedaaGreatDoorCards.lean) ties it to the program's text. -/
def laid_errors_errorType {H : Type} : DataW H := .iface "internal/reflectlite.rtype" (.agg [.ptr (.lit (.string [101, 114, 114, 111, 114]))])
def laid_unicode_utf8_acceptRanges {H : Type} : DataW H := .agg [.agg [.lit (.int .u8 128), .lit (.int .u8 191)], .agg [.lit (.int .u8 160), .lit (.int .u8 191)], .agg [.lit (.int .u8 128), .lit (.int .u8 159)], .agg [.lit (.int .u8 144), .lit (.int .u8 191)], .agg [.lit (.int .u8 128), .lit (.int .u8 143)], .agg [.lit (.int .u8 0), .lit (.int .u8 0)], .agg [.lit (.int .u8 0), .lit (.int .u8 0)], .agg [.lit (.int .u8 0), .lit (.int .u8 0)], .agg [.lit (.int .u8 0), .lit (.int .u8 0)], .agg [.lit (.int .u8 0), .lit (.int .u8 0)], .agg [.lit (.int .u8 0), .lit (.int .u8 0)], .agg [.lit (.int .u8 0), .lit (.int .u8 0)], .agg [.lit (.int .u8 0), .lit (.int .u8 0)], .agg [.lit (.int .u8 0), .lit (.int .u8 0)], .agg [.lit (.int .u8 0), .lit (.int .u8 0)], .agg [.lit (.int .u8 0), .lit (.int .u8 0)]]
/-- One of Go's own tables, pinned by name: the form's constant. -/
def laid_unicode_utf8_first : DataW Unit := Go.Pinned.utf8First

/-- 'tolllaw4.ConnUses': WHATEVER THE INPUT: true; the input reads as it did. -/
def connUsesSpec : ChangeSpec := { name := "connUses", fn := fun _ => fun
  | [d1, d2] => { results := [.lit (.bool true)], args := [d1, d2] }
  | _ => none }
def connUsesRow : OpenClaim := { program := "ytegngpingfjedaagreatdoor", sum := "cbbf69b4ce98f85e0e606031b36bdf7bab5abcf224c8af6d2d8ea231d25ed8e8", func := "tollgate/tolllaw4.ConnUses", spec := "connUses", inPlace := ["internal/bytealg.IndexByteString", "slices.overlaps[tollgate/api.Field]", "internal/reflectlite.ValueOf", "(internal/reflectlite.Value).Type", "(internal/reflectlite.Value).IsNil", "internal/reflectlite.TypeOf", "(internal/reflectlite.Value).Elem", "(internal/reflectlite.Value).Set"], unfollowed := true, recurses := true, named := ["errors.errorType"], apart := false, laid := [("errors.errorType", laid_errors_errorType)] }
def ConnUsesSaid : Prop := connUsesRow.holds Tryz.pinned (OpenSpec.ofChange connUsesSpec)

/-- ITS FALSE NEIGHBOUR: 'it returns false'. Refute it at one input. -/
def connUsesWrong : ChangeSpec := { name := "connUses", fn := fun _ => fun
  | [d1, d2] => { results := [.lit (.bool false)], args := [d1, d2] }
  | _ => none }
def ConnUsesWrongFalsely : Prop := connUsesRow.holds Tryz.pinned (OpenSpec.ofChange connUsesWrong)

/-- 'tolllaw5.ConnSays': WHATEVER THE INPUT: true; the input reads as it did. -/
def connSaysSpec : ChangeSpec := { name := "connSays", fn := fun _ => fun
  | [d1, d2, d3] => { results := [.lit (.bool true)], args := [d1, d2, d3] }
  | _ => none }
def connSaysRow : OpenClaim := { program := "ytegngpingfjedaagreatdoor", sum := "cbbf69b4ce98f85e0e606031b36bdf7bab5abcf224c8af6d2d8ea231d25ed8e8", func := "tollgate/tolllaw5.ConnSays", spec := "connSays", inPlace := ["internal/bytealg.IndexByteString", "slices.overlaps[tollgate/api.Field]", "internal/reflectlite.ValueOf", "(internal/reflectlite.Value).Type", "(internal/reflectlite.Value).IsNil", "internal/reflectlite.TypeOf", "(internal/reflectlite.Value).Elem", "(internal/reflectlite.Value).Set"], unfollowed := true, recurses := true, named := ["errors.errorType"], apart := false, laid := [("errors.errorType", laid_errors_errorType)] }
def ConnSaysSaid : Prop := connSaysRow.holds Tryz.pinned (OpenSpec.ofChange connSaysSpec)

/-- ITS FALSE NEIGHBOUR: 'it returns false'. Refute it at one input. -/
def connSaysWrong : ChangeSpec := { name := "connSays", fn := fun _ => fun
  | [d1, d2, d3] => { results := [.lit (.bool false)], args := [d1, d2, d3] }
  | _ => none }
def ConnSaysWrongFalsely : Prop := connSaysRow.holds Tryz.pinned (OpenSpec.ofChange connSaysWrong)

/-- 'tolllaw4.ConnStops': WHATEVER THE INPUT: true; the input reads as it did. -/
def connStopsSpec : ChangeSpec := { name := "connStops", fn := fun _ => fun
  | [d1, d2, d3, d4] => { results := [.lit (.bool true)], args := [d1, d2, d3, d4] }
  | _ => none }
def connStopsRow : OpenClaim := { program := "ytegngpingfjedaagreatdoor", sum := "cbbf69b4ce98f85e0e606031b36bdf7bab5abcf224c8af6d2d8ea231d25ed8e8", func := "tollgate/tolllaw4.ConnStops", spec := "connStops", inPlace := ["internal/bytealg.IndexByteString", "slices.overlaps[tollgate/api.Field]", "internal/reflectlite.ValueOf", "(internal/reflectlite.Value).Type", "(internal/reflectlite.Value).IsNil", "internal/reflectlite.TypeOf", "(internal/reflectlite.Value).Elem", "(internal/reflectlite.Value).Set"], unfollowed := true, recurses := true, named := ["errors.errorType"], apart := false, laid := [("errors.errorType", laid_errors_errorType)] }
def ConnStopsSaid : Prop := connStopsRow.holds Tryz.pinned (OpenSpec.ofChange connStopsSpec)

/-- ITS FALSE NEIGHBOUR: 'it returns false'. Refute it at one input. -/
def connStopsWrong : ChangeSpec := { name := "connStops", fn := fun _ => fun
  | [d1, d2, d3, d4] => { results := [.lit (.bool false)], args := [d1, d2, d3, d4] }
  | _ => none }
def ConnStopsWrongFalsely : Prop := connStopsRow.holds Tryz.pinned (OpenSpec.ofChange connStopsWrong)

/-- 'tolllaw4.ConnFaults': WHATEVER THE INPUT: true; the input reads as it did. -/
def connFaultsSpec : ChangeSpec := { name := "connFaults", fn := fun _ => fun
  | [d1, d2] => { results := [.lit (.bool true)], args := [d1, d2] }
  | _ => none }
def connFaultsRow : OpenClaim := { program := "ytegngpingfjedaagreatdoor", sum := "cbbf69b4ce98f85e0e606031b36bdf7bab5abcf224c8af6d2d8ea231d25ed8e8", func := "tollgate/tolllaw4.ConnFaults", spec := "connFaults", inPlace := ["internal/bytealg.IndexByteString", "slices.overlaps[tollgate/api.Field]", "internal/reflectlite.ValueOf", "(internal/reflectlite.Value).Type", "(internal/reflectlite.Value).IsNil", "internal/reflectlite.TypeOf", "(internal/reflectlite.Value).Elem", "(internal/reflectlite.Value).Set"], unfollowed := true, recurses := true, named := ["errors.errorType"], apart := false, laid := [("errors.errorType", laid_errors_errorType)] }
def ConnFaultsSaid : Prop := connFaultsRow.holds Tryz.pinned (OpenSpec.ofChange connFaultsSpec)

/-- ITS FALSE NEIGHBOUR: 'it returns false'. Refute it at one input. -/
def connFaultsWrong : ChangeSpec := { name := "connFaults", fn := fun _ => fun
  | [d1, d2] => { results := [.lit (.bool false)], args := [d1, d2] }
  | _ => none }
def ConnFaultsWrongFalsely : Prop := connFaultsRow.holds Tryz.pinned (OpenSpec.ofChange connFaultsWrong)

/-- 'tolllaw4.ConnHears': WHATEVER THE INPUT: true; the input reads as it did. -/
def connHearsSpec : ChangeSpec := { name := "connHears", fn := fun _ => fun
  | [d] => { results := [.lit (.bool true)], args := [d] }
  | _ => none }
def connHearsRow : OpenClaim := { program := "ytegngpingfjedaagreatdoor", sum := "cbbf69b4ce98f85e0e606031b36bdf7bab5abcf224c8af6d2d8ea231d25ed8e8", func := "tollgate/tolllaw4.ConnHears", spec := "connHears", inPlace := ["internal/bytealg.IndexByteString", "slices.overlaps[tollgate/api.Field]", "internal/bytealg.IndexString", "internal/bytealg.CountString"], unfollowed := true, recurses := true, named := ["unicode/utf8.first", "unicode/utf8.acceptRanges", "internal/bytealg.MaxLen"], apart := false, laid := [("unicode/utf8.acceptRanges", laid_unicode_utf8_acceptRanges), ("unicode/utf8.first", laid_unicode_utf8_first)] }
def ConnHearsSaid : Prop := connHearsRow.holds Tryz.pinned (OpenSpec.ofChange connHearsSpec)

/-- ITS FALSE NEIGHBOUR: 'it returns false'. Refute it at one input. -/
def connHearsWrong : ChangeSpec := { name := "connHears", fn := fun _ => fun
  | [d] => { results := [.lit (.bool false)], args := [d] }
  | _ => none }
def ConnHearsWrongFalsely : Prop := connHearsRow.holds Tryz.pinned (OpenSpec.ofChange connHearsWrong)

/- THE SECOND FORM. 'bulk': how many values and letters a reading holds, each counted each time it is reached (what is shared counts as often as it is met; a slice's spare places count too). A statement '..UptoSaid' is the law's where the arguments, and the package variables that the reading takes, are together of bulk at most 1048576: NARROWER than '..Said'. Prove '..Said' where nothing that the law and all that it calls make is longer than what came in: it says more and counts as full. Else prove '..UptoSaid'. A law counts once. -/
mutual
def uptoBulk {H : Type} : DataW H → Nat
  | .lit (.string bytes) => bytes.length + 1
  | .lit _ => 1
  | .nil => 1
  | .ptr d => uptoBulk d + 1
  | .slice elems spare => uptoBulkAll elems + uptoBulkAll spare + 1
  | .agg parts => uptoBulkAll parts + 1
  | .iface _ d => uptoBulk d + 1
  | .map entries => uptoBulkEntries entries + 1
  | .held _ => 1
def uptoBulkAll {H : Type} : List (DataW H) → Nat
  | [] => 0
  | d :: r => uptoBulk d + uptoBulkAll r
def uptoBulkEntries {H : Type} : List (Lit × DataW H) → Nat
  | [] => 0
  | x :: r => uptoBulkEntry x + uptoBulkEntries r
def uptoBulkEntry {H : Type} : Lit × DataW H → Nat
  | (.string bytes, d) => bytes.length + uptoBulk d + 1
  | (_, d) => uptoBulk d + 1
 end
def uptoSmall : (H : Type) → List (DataW H) → Bool := fun _ ds => decide (uptoBulkAll ds ≤ 1048576)
def OpenSpec.upto (s : _root_.Go.ChangeSpec) : _root_.Go.OpenSpec := { _root_.Go.OpenSpec.ofChange s with cond := some uptoSmall }

/-- 'tolllaw4.ConnUses', WHERE WHAT IT READS IS OF BULK AT MOST 1048576: true; the input reads as it did. -/
def connUsesUptoRow : OpenClaim := { program := "ytegngpingfjedaagreatdoor", sum := "cbbf69b4ce98f85e0e606031b36bdf7bab5abcf224c8af6d2d8ea231d25ed8e8", func := "tollgate/tolllaw4.ConnUses", spec := "connUses", inPlace := ["internal/bytealg.IndexByteString", "slices.overlaps[tollgate/api.Field]", "internal/reflectlite.ValueOf", "(internal/reflectlite.Value).Type", "(internal/reflectlite.Value).IsNil", "internal/reflectlite.TypeOf", "(internal/reflectlite.Value).Elem", "(internal/reflectlite.Value).Set"], unfollowed := true, recurses := true, named := ["errors.errorType"], apart := false, laid := [("errors.errorType", laid_errors_errorType)], narrowed := true }
def ConnUsesUptoSaid : Prop := connUsesUptoRow.holds Tryz.pinned (OpenSpec.upto connUsesSpec)

/-- 'tolllaw5.ConnSays', WHERE WHAT IT READS IS OF BULK AT MOST 1048576: true; the input reads as it did. -/
def connSaysUptoRow : OpenClaim := { program := "ytegngpingfjedaagreatdoor", sum := "cbbf69b4ce98f85e0e606031b36bdf7bab5abcf224c8af6d2d8ea231d25ed8e8", func := "tollgate/tolllaw5.ConnSays", spec := "connSays", inPlace := ["internal/bytealg.IndexByteString", "slices.overlaps[tollgate/api.Field]", "internal/reflectlite.ValueOf", "(internal/reflectlite.Value).Type", "(internal/reflectlite.Value).IsNil", "internal/reflectlite.TypeOf", "(internal/reflectlite.Value).Elem", "(internal/reflectlite.Value).Set"], unfollowed := true, recurses := true, named := ["errors.errorType"], apart := false, laid := [("errors.errorType", laid_errors_errorType)], narrowed := true }
def ConnSaysUptoSaid : Prop := connSaysUptoRow.holds Tryz.pinned (OpenSpec.upto connSaysSpec)

/-- 'tolllaw4.ConnStops', WHERE WHAT IT READS IS OF BULK AT MOST 1048576: true; the input reads as it did. -/
def connStopsUptoRow : OpenClaim := { program := "ytegngpingfjedaagreatdoor", sum := "cbbf69b4ce98f85e0e606031b36bdf7bab5abcf224c8af6d2d8ea231d25ed8e8", func := "tollgate/tolllaw4.ConnStops", spec := "connStops", inPlace := ["internal/bytealg.IndexByteString", "slices.overlaps[tollgate/api.Field]", "internal/reflectlite.ValueOf", "(internal/reflectlite.Value).Type", "(internal/reflectlite.Value).IsNil", "internal/reflectlite.TypeOf", "(internal/reflectlite.Value).Elem", "(internal/reflectlite.Value).Set"], unfollowed := true, recurses := true, named := ["errors.errorType"], apart := false, laid := [("errors.errorType", laid_errors_errorType)], narrowed := true }
def ConnStopsUptoSaid : Prop := connStopsUptoRow.holds Tryz.pinned (OpenSpec.upto connStopsSpec)

/-- 'tolllaw4.ConnFaults', WHERE WHAT IT READS IS OF BULK AT MOST 1048576: true; the input reads as it did. -/
def connFaultsUptoRow : OpenClaim := { program := "ytegngpingfjedaagreatdoor", sum := "cbbf69b4ce98f85e0e606031b36bdf7bab5abcf224c8af6d2d8ea231d25ed8e8", func := "tollgate/tolllaw4.ConnFaults", spec := "connFaults", inPlace := ["internal/bytealg.IndexByteString", "slices.overlaps[tollgate/api.Field]", "internal/reflectlite.ValueOf", "(internal/reflectlite.Value).Type", "(internal/reflectlite.Value).IsNil", "internal/reflectlite.TypeOf", "(internal/reflectlite.Value).Elem", "(internal/reflectlite.Value).Set"], unfollowed := true, recurses := true, named := ["errors.errorType"], apart := false, laid := [("errors.errorType", laid_errors_errorType)], narrowed := true }
def ConnFaultsUptoSaid : Prop := connFaultsUptoRow.holds Tryz.pinned (OpenSpec.upto connFaultsSpec)

/-- 'tolllaw4.ConnHears', WHERE WHAT IT READS IS OF BULK AT MOST 1048576: true; the input reads as it did. -/
def connHearsUptoRow : OpenClaim := { program := "ytegngpingfjedaagreatdoor", sum := "cbbf69b4ce98f85e0e606031b36bdf7bab5abcf224c8af6d2d8ea231d25ed8e8", func := "tollgate/tolllaw4.ConnHears", spec := "connHears", inPlace := ["internal/bytealg.IndexByteString", "slices.overlaps[tollgate/api.Field]", "internal/bytealg.IndexString", "internal/bytealg.CountString"], unfollowed := true, recurses := true, named := ["unicode/utf8.first", "unicode/utf8.acceptRanges", "internal/bytealg.MaxLen"], apart := false, laid := [("unicode/utf8.acceptRanges", laid_unicode_utf8_acceptRanges), ("unicode/utf8.first", laid_unicode_utf8_first)], narrowed := true }
def ConnHearsUptoSaid : Prop := connHearsUptoRow.holds Tryz.pinned (OpenSpec.upto connHearsSpec)

end Rows
end Go.Proofs.YtegngpingfjedaaGreatDoor
