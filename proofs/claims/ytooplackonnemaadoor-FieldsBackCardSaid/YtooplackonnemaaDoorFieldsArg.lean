/-
  A []api.Field that came in, as a list of fields.
  Conditions: none.
-/
import Derived.Test.YtooplackonnemaaDoorArgs
import Derived.Test.YtooplackonnemaaDoorFieldRows
import Derived.Test.YtooplackonnemaaDoorStructs
import Derived.OpenShut
namespace Go.Proofs.YtooplackonnemaaDoor.Args
open Go.RowKit Go.ChangeShapes Go.WideShapes RowsK FieldRows
set_option linter.unusedVariables false
set_option linter.unusedSimpArgs false

/-- v is a []api.Field with these elements. -/
def FieldsAt (w : World) (v : Value) (l : List Fld) : Prop := At encF w v l ∧ ∀ f ∈ l, f.1.size ≤ maxLen ∧ f.2.size ≤ maxLen
section
variable {H : Type} {enc : TypeId × Value → H} {w : World} {base : Nat} {held : Bool}
theorem choose_fields {α : Type} (n : Nat) (p : Nat → α → Prop) (h : ∀ i, i < n → ∃ a, p i a) : ∃ l : List α, l.length = n ∧ ∀ i (hi : i < l.length), p i l[i] := by
  induction n with
  | zero => exact ⟨[], rfl, fun i hi => absurd hi (by simp)⟩
  | succ n ih =>
    obtain ⟨l, hl, hp⟩ := ih (fun i hi => h i (by omega))
    obtain ⟨a, ha⟩ := h n (by omega)
    refine ⟨l ++ [a], by simp [hl], fun i hi => ?_⟩
    simp only [List.length_append, List.length_singleton, hl] at hi
    by_cases hin : i < l.length
    · rw [List.getElem_append_left hin]; exact hp i hin
    · obtain rfl : i = n := by omega
      rw [List.getElem_append_right (by omega)]
      simpa [hl] using ha
theorem fieldFields : ∃ f0 f1 : Go.Field, Tryd.prog.underlying 33 = some (.struct #[f0, f1]) ∧ f0.type = 9 ∧ f1.type = 9 ∧ Go.Deep.oneCellFields Tryd.prog #[f0, f1] = true := by
  refine ⟨_, _, Tryd.underlying33, rfl, rfl, by kernel_rfl⟩
theorem trodStr {n : Nat} {v : Value} {y : DataW H × List MemPlace} (h : DataW.trod enc Tryd.prog w base (fun _ => true) held n 9 [v] = some y) : ∃ s : ByteArray, v = .string s ∧ s.size ≤ maxLen := by
  obtain ⟨z, e, _, hw⟩ := DataW.trod_string Tryd.underlying9 h
  simp only [List.cons.injEq, and_true] at e
  exact ⟨z, e, hw⟩
theorem apifield_of {fuel : Nat} {cs : List Value} {x : DataW H × List MemPlace} (h : DataW.trod enc Tryd.prog w base (fun _ => true) held fuel 22 cs = some x) : ∃ v zs, cs = [v] ∧ FieldsAt w v zs := by
  obtain ⟨f0, f1, hu, t0, t1, hone⟩ := fieldFields
  obtain ⟨a, len, cap, rfl, h1, h2, h3, h4⟩ := StructsL.structs_of Tryd.underlying22 hu hone (by kernel_rfl) (by simp) h
  obtain ⟨fs, hl, hp⟩ := choose_fields len (fun i (f : Fld) => (∃ b off, a = some ⟨b, off, none⟩ ∧ b < w.heap.size ∧ ∀ j, j < encF.k → w.cell? ⟨b, off + (i * encF.k + j), none⟩ = (encF.enc f)[j]?) ∧ f.1.size ≤ maxLen ∧ f.2.size ≤ maxLen) (fun i hi => by
    obtain ⟨b, off, vs, d, ha, hb, hvs, hc, ys, _, _, hf⟩ := h4 i hi
    match vs, hvs with
    | [v0, v1], _ =>
      obtain ⟨n0, y0, _, r0⟩ := hf 0 f0 v0 rfl rfl
      obtain ⟨n1, y1, _, r1⟩ := hf 1 f1 v1 rfl rfl
      rw [t0] at r0; rw [t1] at r1
      obtain ⟨z0, rfl, b0⟩ := trodStr r0
      obtain ⟨z1, rfl, b1⟩ := trodStr r1
      exact ⟨(z0, z1), ⟨b, off, ha, hb, fun j hj => hc j hj⟩, b0, b1⟩)
  subst hl
  refine ⟨_, fs, rfl, ⟨a, cap, rfl, h1, h2, h3, fun i hi => (hp i hi).1⟩, fun f hf => ?_⟩
  obtain ⟨i, hi, rfl⟩ := List.getElem_of_mem hf
  exact (hp i hi).2
end
end Go.Proofs.YtooplackonnemaaDoor.Args
