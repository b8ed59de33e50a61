/-
  What a request or a reply holds, and how great it is.
  Conditions: none.
-/
import Derived.Test.YtooplackonnemaaDoorLineCheck
import Derived.Test.YtooplackonnemaaDoorFieldsArg
import Derived.Test.YtooplackonnemaaDoorBytesArg
namespace Go.Proofs.YtooplackonnemaaDoor.LineM
open Go.RowKit Go.Shelf RowsK LineC FieldRows BA
set_option linter.unusedVariables false
set_option linter.unusedSimpArgs false

/-- What a request's parts hold, and how great they are. -/
structure RqAt (w : World) (vf vb : Value) (r : Rq) : Prop where
  fs : Args.FieldsAt w vf r.fields
  bs : Args.BytesAt w vb r.body
  sz : r.method.size ≤ maxLen ∧ r.path.size ≤ maxLen ∧ r.host.size ≤ maxLen
theorem RqAt.old {w w' : World} {vf vb : Value} {r : Rq} (h : RqAt w vf vb r) (hB : Below w.heap.size w w') : RqAt w' vf vb r := ⟨⟨h.fs.1.old hB, h.fs.2⟩, ⟨h.bs.1.below hB, h.bs.2⟩, h.sz⟩
structure RpAt (w : World) (vf vb : Value) (r : Rp) : Prop where
  fs : Args.FieldsAt w vf r.fields
  bs : Args.BytesAt w vb r.body
  code : Args.I64 r.code
theorem RpAt.old {w w' : World} {vf vb : Value} {r : Rp} (h : RpAt w vf vb r) (hB : Below w.heap.size w w') : RpAt w' vf vb r := ⟨⟨h.fs.1.old hB, h.fs.2⟩, ⟨h.bs.1.below hB, h.bs.2⟩, h.code⟩
end Go.Proofs.YtooplackonnemaaDoor.LineM
