/-
  What the bulk's bound says of fields and strings that came in; a witness over a world that is shaped.
  Conditions: none.
-/
import Derived.Test.YtooplackonnemaaDoorRows
import Derived.Test.YtooplackonnemaaDoorFieldsArg
import Derived.JoinedCond
import Derived.OpenShut
import Derived.Deep.DeepHandedRow
import Derived.LaidLaws
namespace Go.Proofs.YtooplackonnemaaDoor.Args
open Go.RowKit Go.ChangeShapes Go.WideShapes RowsK
open FieldRows
set_option linter.unusedVariables false
set_option linter.unusedSimpArgs false

section
variable {H : Type}
theorem bulk_pos (d : DataW H) : 1 ≤ Rows.uptoBulk d := by
  cases d with
  | lit l => cases l <;> simp [Rows.uptoBulk]
  | _ => simp [Rows.uptoBulk]
theorem bulk_mem {d : DataW H} {l : List (DataW H)} (h : d ∈ l) : Rows.uptoBulk d ≤ Rows.uptoBulkAll l := by
  induction l with
  | nil => cases h
  | cons x r ih =>
    simp only [Rows.uptoBulkAll]
    rcases List.mem_cons.1 h with e | e
    · subst e; omega
    · have := ih e; omega
theorem bulk_str {s : ByteArray} {n : Nat} (h : Rows.uptoBulk (DataW.lit (H := H) (.string s.data.toList)) ≤ n) : s.size + 1 ≤ n := by
  simp only [Rows.uptoBulk] at h
  have e : s.data.toList.length = s.size := by rw [Array.length_toList]; rfl
  omega
/-- What a field weighs. -/
def fw (f : Fld) : Nat := f.1.size + f.2.size + 3
theorem sum_le : ∀ (l : List Fld) (es : List (DataW H)), l.length = es.length → (∀ i (h : i < l.length) (h2 : i < es.length), fw l[i] ≤ Rows.uptoBulk es[i]) → (l.map fw).sum ≤ Rows.uptoBulkAll es
  | [], [], _, _ => by simp [Rows.uptoBulkAll]
  | [], _ :: _, h, _ => by simp at h
  | _ :: _, [], h, _ => by simp at h
  | a :: l, e :: es, hl, h => by
    have h0 := h 0 (by simp) (by simp)
    have h1 := sum_le l es (by simpa using hl) (fun i h1 h2 => by
      have := h (i + 1) (by simp; omega) (by simp; omega)
      simpa using this)
    simp only [List.map_cons, List.sum_cons, Rows.uptoBulkAll]
    simp only [List.getElem_cons_zero] at h0
    omega
variable {enc : TypeId × Value → H} {w : World} {base : Nat} {held : Bool}
theorem fields_bulk {fuel : Nat} {a : Option Addr} {n cap : Nat} {x : DataW H × List MemPlace} {l : List Fld} (h : DataW.trod enc Tryd.prog w base (fun _ => true) held fuel 22 [.slice a n cap] = some x) (hA : At encF w (.slice a n cap) l) : (l.map fw).sum + 1 ≤ Rows.uptoBulk x.1 := by
  obtain ⟨f0, f1, hu, t0, t1, hone⟩ := fieldFields
  rcases DataW.trod_slice Tryd.underlying22 h with ⟨e, rfl⟩ | ⟨ad, len, cp, elems, rest, m, _, e, rfl, _, _, _, hlen, hel, _⟩
  · simp only [List.cons.injEq, and_true, Value.slice.injEq] at e
    obtain ⟨rfl, rfl, rfl⟩ := e
    obtain ⟨a', cap', e, h1, h2, h3, _⟩ := hA
    simp only [Value.slice.injEq] at e
    have h0 : l = [] := List.eq_nil_of_length_eq_zero (by omega)
    subst h0
    simp [Rows.uptoBulk]
  · simp only [List.cons.injEq, and_true, Value.slice.injEq] at e
    obtain ⟨rfl, rfl, rfl⟩ := e
    obtain ⟨a', cap', e, h1, h2, h3, hc⟩ := hA
    simp only [Value.slice.injEq] at e
    obtain ⟨rfl, e2, rfl⟩ := e
    have hsum := sum_le l (elems.map (·.1)) (by rw [List.length_map]; omega) (fun i hi hi2 => by
      obtain ⟨b, off, e3, hb, hcell⟩ := hc i hi
      obtain rfl := Option.some.inj e3
      have hz : Tryd.prog.cellsOf 33 = 2 := by kernel_rfl
      have hE := hel i (by omega)
      rw [List.getElem?_eq_getElem (by rw [List.length_map] at hi2; exact hi2), hz] at hE
      obtain ⟨cs, hcs, htr⟩ := Option.bind_eq_some_iff.1 hE
      obtain ⟨_, hcl, hat⟩ := World.cells?_some hcs
      have g0 := hat 0 (by decide)
      have g1 := hat 1 (by decide)
      rw [Go.WideShapes.add_plain, Go.WideShapes.add_plain] at g0 g1
      have q0 := hcell 0 (by decide)
      have q1 := hcell 1 (by decide)
      have ek : i * encF.k = i * 2 := rfl
      rw [ek] at q0 q1
      simp only [Nat.add_zero, Nat.add_assoc] at g0 g1 q0 q1
      rw [q0] at g0
      rw [q1] at g1
      obtain ⟨_, ys, hy1, hy2, hy3⟩ := StructsL.fields_of hu hone (by kernel_rfl) htr
      obtain ⟨n0, y0, ey0, tr0⟩ := hy3 0 f0 (.string l[i].1) rfl g0.symm
      obtain ⟨n1, y1, ey1, tr1⟩ := hy3 1 f1 (.string l[i].2) rfl g1.symm
      rw [t0] at tr0; rw [t1] at tr1
      obtain ⟨s0, es0, ex0, _⟩ := DataW.trod_string Tryd.underlying9 tr0
      obtain ⟨s1, es1, ex1, _⟩ := DataW.trod_string Tryd.underlying9 tr1
      simp only [List.cons.injEq, and_true, Value.string.injEq] at es0 es1
      subst es0
      subst es1
      match ys, hy2 with
      | [z0, z1], _ =>
        simp only [List.getElem?_cons_zero, List.getElem?_cons_succ, Option.some.injEq] at ey0 ey1
        subst ey0
        subst ey1
        rw [List.getElem_map, hy1, ex0, ex1]
        simp only [List.map_cons, List.map_nil, Rows.uptoBulk, Rows.uptoBulkAll]
        have k0 : l[i].1.data.toList.length = l[i].1.size := by rw [Array.length_toList]; rfl
        have k1 : l[i].2.data.toList.length = l[i].2.size := by rw [Array.length_toList]; rfl
        rw [k0, k1]
        show l[i].1.size + l[i].2.size + 3 ≤ _
        omega)
    simp only [Rows.uptoBulk]
    omega
end
/-- A witness over a world whose shape is known. -/
theorem witness_row {H : Type} {enc : TypeId × Value → H} {C : Checked} {os : Os} {f : FuncId} {fn : Func} {s : OpenSpec} {conds : List PathCond} {apart : Bool} {laid : List (String × DataW Unit)} (modest : Bool) (w0 : World) (args : Array Value) (hos : w0.os = os)
    (hsh : (w0.forCall (fun _ _ => 0) ⟨#[], args, []⟩).Shaped C.prog)
    (hok : Input.okWideB C.prog (w0.forCall (fun _ _ => 0) ⟨#[], args, []⟩) f ⟨#[], args, []⟩ = true)
    (hrow : s.preRow enc C.prog fn conds apart laid (w0.forCall (fun _ _ => 0) ⟨#[], args, []⟩).memory args) :
    ∃ (w : World) (tape : Tape) (i : Input), w.os = os ∧ (w.forCall tape i).Shaped C.prog ∧ i.vars = [] ∧ Input.okWide C.prog (w.forCall tape i) .any w.heap.size f i ∧
      s.preRow enc C.prog fn conds apart laid (w.forCall tape i).memory i.args ∧ ({ modest := modest } : Assume).holds C.prog (lone (Frame.enter C.prog f i.args .normal) [] (w.forCall tape i)) :=
  ⟨w0, fun _ _ => 0, ⟨#[], args, []⟩, hos, hsh, (Input.okWide_of_okWideB (base := 0) hok).1, (Input.okWide_of_okWideB hok).2, hrow, by
    simp only [Assume.holds]
    exact ⟨by simp, by simp, fun _ => Modest.zero, by simp, by simp⟩⟩
end Go.Proofs.YtooplackonnemaaDoor.Args
