/-
  A []api.Request that came in, as a list of requests.
  Conditions: none.
-/
import Derived.Test.YtkohbbnnjakhjaaDoorFieldsArg
import Derived.Test.YtkohbbnnjakhjaaDoorBytesArg
import Derived.Test.YtkohbbnnjakhjaaDoorLineCheck
namespace Go.Proofs.YtkohbbnnjakhjaaDoor.Args
open Go.RowKit Go.ChangeShapes Go.WideShapes BA RowsK FieldRows LineM
set_option linter.unusedVariables false
set_option linter.unusedSimpArgs false

/-- v is a []api.Request with these elements. -/
def RequestsAt (w : World) (v : Value) (rs : List Rq) : Prop := ∃ a cap, v = .slice a rs.length cap ∧ rs.length ≤ cap ∧ cap ≤ 9223372036854775807 ∧ (a = none → cap = 0) ∧
  ∀ i (h : i < rs.length), ∃ b off vf vb, a = some ⟨b, off, none⟩ ∧ b < w.heap.size ∧ w.cell? ⟨b, off + i * 5, none⟩ = some (.string rs[i].method) ∧ w.cell? ⟨b, off + i * 5 + 1, none⟩ = some (.string rs[i].path) ∧
    w.cell? ⟨b, off + i * 5 + 2, none⟩ = some (.string rs[i].host) ∧ w.cell? ⟨b, off + i * 5 + 3, none⟩ = some vf ∧ w.cell? ⟨b, off + i * 5 + 4, none⟩ = some vb ∧ FieldsAt w vf rs[i].fields ∧ BytesAt w vb rs[i].body
section
variable {H : Type} {enc : TypeId × Value → H} {w : World} {base : Nat} {held : Bool}
theorem requestFieldsA : ∃ f0 f1 f2 f3 f4 : Go.Field, Tryd.prog.underlying 25 = some (.struct #[f0, f1, f2, f3, f4]) ∧ f0.type = 9 ∧ f1.type = 9 ∧ f2.type = 9 ∧ f3.type = 23 ∧ f4.type = 22 ∧ Go.Deep.oneCellFields Tryd.prog #[f0, f1, f2, f3, f4] = true := by
  refine ⟨_, _, _, _, _, Tryd.underlying25, rfl, rfl, rfl, rfl, rfl, by kernel_rfl⟩
theorem apirequest_of {fuel : Nat} {cs : List Value} {x : DataW H × List MemPlace} (h : DataW.trod enc Tryd.prog w base (fun _ => true) held fuel 42 cs = some x) : ∃ v zs, cs = [v] ∧ RequestsAt w v zs := by
  obtain ⟨f0, f1, f2, f3, f4, hu, t0, t1, t2, t3, t4, hone⟩ := requestFieldsA
  obtain ⟨a, len, cap, rfl, h1, h2, h3, h4⟩ := StructsL.structs_of Tryd.underlying42 hu hone (by kernel_rfl) (by simp) h
  obtain ⟨fs, hl, hp⟩ := choose_fields len (fun i (f : Rq) => ∃ b off vf vb, a = some ⟨b, off, none⟩ ∧ b < w.heap.size ∧ w.cell? ⟨b, off + i * 5, none⟩ = some (.string f.method) ∧ w.cell? ⟨b, off + i * 5 + 1, none⟩ = some (.string f.path) ∧
    w.cell? ⟨b, off + i * 5 + 2, none⟩ = some (.string f.host) ∧ w.cell? ⟨b, off + i * 5 + 3, none⟩ = some vf ∧ w.cell? ⟨b, off + i * 5 + 4, none⟩ = some vb ∧ FieldsAt w vf f.fields ∧ BytesAt w vb f.body) (fun i hi => by
    obtain ⟨b, off, vs, d, ha, hb, hvs, hc, ys, _, _, hf⟩ := h4 i hi
    match vs, hvs with
    | [v0, v1, v2, v3, v4], _ =>
      obtain ⟨n0, y0, _, r0⟩ := hf 0 f0 v0 rfl rfl
      obtain ⟨n1, y1, _, r1⟩ := hf 1 f1 v1 rfl rfl
      obtain ⟨n2, y2, _, r2⟩ := hf 2 f2 v2 rfl rfl
      obtain ⟨n3, y3, _, r3⟩ := hf 3 f3 v3 rfl rfl
      obtain ⟨n4, y4, _, r4⟩ := hf 4 f4 v4 rfl rfl
      rw [t0] at r0; rw [t1] at r1; rw [t2] at r2; rw [t3] at r3; rw [t4] at r4
      obtain ⟨z0, rfl, b0⟩ := trodStr r0
      obtain ⟨z1, rfl, b1⟩ := trodStr r1
      obtain ⟨z2, rfl, b2⟩ := trodStr r2
      obtain ⟨v3', fl, e3, a3⟩ := apifield_of (cs := [v3]) r3
      obtain ⟨v4', bl, e4, a4⟩ := bytes_of (cs := [v4]) Tryd.underlying22 Tryd.underlying5 (by kernel_rfl) r4
      simp only [List.cons.injEq, and_true] at e3 e4
      subst e3 e4
      have c0 := hc 0 (by simp)
      have c1 := hc 1 (by simp)
      have c2 := hc 2 (by simp)
      have c3 := hc 3 (by simp)
      have c4 := hc 4 (by simp)
      refine ⟨⟨z0, z1, z2, fl, bl⟩, b, off, v3, v4, ha, hb, ?_, ?_, ?_, ?_, ?_, a3, a4⟩
      · simpa using c0
      · simpa [Nat.add_assoc] using c1
      · simpa [Nat.add_assoc] using c2
      · simpa [Nat.add_assoc] using c3
      · simpa [Nat.add_assoc] using c4)
  subst hl
  exact ⟨_, fs, rfl, a, cap, rfl, h1, h2, h3, hp⟩
end
end Go.Proofs.YtkohbbnnjakhjaaDoor.Args
