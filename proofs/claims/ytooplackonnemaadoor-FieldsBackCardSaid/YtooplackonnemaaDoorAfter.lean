/-
  A region that draws its order, whose operations only read and whose callees only read or make memory: one walk, in the order of the text.
  Conditions: none.
-/
import Derived.Test.YtooplackonnemaaDoorProg
import Derived.WalkKit
import Derived.Below
import Derived.BigQuiet
namespace Go.Proofs.YtooplackonnemaaDoor.AfterL
open Go.RowKit
set_option linter.unusedVariables false

/-- The worlds behind w0 in which nothing old has turned. -/
def After (w0 : World) := {w' : World // Below w0.heap.size w0 w'}
variable {P : Program} {w0 : World}
instance : Nonempty (After w0) := ⟨⟨w0, Below.refl _ _⟩⟩
theorem wp_region_after {id : Nat} {Q : Exit → Act → World → Prop} {a : Act} {w : World} {l : List Oper} (w0 : World) (hw : Below w0.heap.size w0 w) (hm : P.follows .mixedOrders = true) (hB : Region.lexB .any l.toArray = true)
    (h : wpQuiet P l.toArray (fun w' => ∃ n : After w0, w' = n.1) (fun a' => ∀ w', (∃ n : After w0, w' = n.1) → Q .normal a' w') l a) : (Code.region id l.toArray true).wp P Q a w :=
  wp_region_quiet (C := fun w' => ∃ n : After w0, w' = n.1) hm hB ⟨⟨{ w with drawn := w.drawn + 1 }, ⟨hw.os, hw.tape, hw.output, hw.size, hw.block⟩⟩, rfl⟩ (by simpa using h)
theorem After.cell (n : After w0) {p : Addr} {v : Value} (h : w0.cell? p = some v) : n.1.cell? p = some v := (n.2.cell (p := p) (block_lt_of_cell h)).trans h
theorem After.call {n : After w0} {f : FuncId} {args : Array Value} {v : Value} (h : Calls P f args n.1 fun e w' => e = .returned v ∧ Below n.1.heap.size n.1 w') :
    Calls P f args n.1 fun e w'' => e = .returned v ∧ ∃ m : After w0, w'' = m.1 :=
  h.mono fun e w' ⟨he, hB⟩ => ⟨he, ⟨w', n.2.trans (hB.mono n.2.size)⟩, rfl⟩
theorem _root_.Go.RowKit.Below.trans_below {a b c : World} (h : Below a.heap.size a b) (h2 : Below b.heap.size b c) {B : Nat} (hB : B ≤ a.heap.size) : Below B a c := (h.mono hB).trans (h2.mono (Nat.le_trans hB h.size))
end Go.Proofs.YtooplackonnemaaDoor.AfterL
