/-
  A []api.Frame that came in, as a list of frames.
  Conditions: none.
-/
import Derived.Test.YtegngpingfjedaaGreatDoorFrame
import Derived.Test.YtegngpingfjedaaGreatDoorStructs
import Derived.Test.YtegngpingfjedaaGreatDoorBytesArg
import Derived.OpenShut
namespace Go.Proofs.YtegngpingfjedaaGreatDoor.Args
open Go.RowKit Go.ChangeShapes Go.WideShapes BA FrameC
set_option linter.unusedVariables false
set_option linter.unusedSimpArgs false

def ByteL (l : List Int) : Prop := ∀ z ∈ l, 0 ≤ z ∧ z ≤ 255
def FrOk (f : Fr) : Prop := I64 f.kind ∧ I64 f.flags ∧ I64 f.stream ∧ ByteL f.body
/-- v is a []api.Frame with these elements. -/
def FramesAt (w : World) (v : Value) (fs : List Fr) : Prop := ∃ a cap, v = .slice a fs.length cap ∧ fs.length ≤ cap ∧ cap ≤ 9223372036854775807 ∧ (a = none → cap = 0) ∧
  ∀ i (h : i < fs.length), ∃ b off vb, a = some ⟨b, off, none⟩ ∧ b < w.heap.size ∧ w.cell? ⟨b, off + i * 4, none⟩ = some (.int .i64 fs[i].kind) ∧ w.cell? ⟨b, off + i * 4 + 1, none⟩ = some (.int .i64 fs[i].flags) ∧
    w.cell? ⟨b, off + i * 4 + 2, none⟩ = some (.int .i64 fs[i].stream) ∧ w.cell? ⟨b, off + i * 4 + 3, none⟩ = some vb ∧ BA.BytesAt w vb fs[i].body ∧ FrOk fs[i]
section
variable {H : Type} {enc : TypeId × Value → H} {w : World} {base : Nat} {held : Bool}
theorem choose_list {α : Type} (n : Nat) (p : Nat → α → Prop) (h : ∀ i, i < n → ∃ a, p i a) : ∃ l : List α, l.length = n ∧ ∀ i (hi : i < l.length), p i l[i] := by
  induction n with
  | zero => exact ⟨[], rfl, fun i hi => absurd hi (by simp)⟩
  | succ n ih =>
    obtain ⟨l, hl, hp⟩ := ih (fun i hi => h i (by omega))
    obtain ⟨a, ha⟩ := h n (by omega)
    refine ⟨l ++ [a], by simp [hl], fun i hi => ?_⟩
    simp only [List.length_append, List.length_singleton, hl] at hi
    by_cases hin : i < l.length
    · rw [List.getElem_append_left hin]; exact hp i hin
    · obtain rfl : i = n := by omega
      rw [List.getElem_append_right (by omega)]
      simpa [hl] using ha
theorem frameFields : ∃ f0 f1 f2 f3 : Field, Tryz.prog.underlying 38 = some (.struct #[f0, f1, f2, f3]) ∧ f0.type = 3 ∧ f1.type = 3 ∧ f2.type = 3 ∧ f3.type = 30 ∧ Go.Deep.oneCellFields Tryz.prog #[f0, f1, f2, f3] = true := by
  refine ⟨_, _, _, _, Tryz.underlying38, rfl, rfl, rfl, rfl, by kernel_rfl⟩
theorem trodInt {n : Nat} {v : Value} {y : DataW H × List MemPlace} (h : DataW.trod enc Tryz.prog w base (fun _ => true) held n 3 [v] = some y) : ∃ z, v = .int .i64 z ∧ I64 z := by
  obtain ⟨z, e, _, hw⟩ := DataW.trod_int Tryz.underlying3 h
  simp only [List.cons.injEq, and_true] at e
  exact ⟨z, e, bounds_i64 hw⟩
theorem apiframe_of {fuel : Nat} {cs : List Value} {x : DataW H × List MemPlace} (h : DataW.trod enc Tryz.prog w base (fun _ => true) held fuel 45 cs = some x) : ∃ v zs, cs = [v] ∧ FramesAt w v zs := by
  obtain ⟨f0, f1, f2, f3, hu, t0, t1, t2, t3, hone⟩ := frameFields
  obtain ⟨a, len, cap, rfl, h1, h2, h3, h4⟩ := StructsL.structs_of Tryz.underlying45 hu hone (by kernel_rfl) (by simp) h
  obtain ⟨fs, hl, hp⟩ := choose_list len (fun i (f : Fr) => ∃ b off vb, a = some ⟨b, off, none⟩ ∧ b < w.heap.size ∧ w.cell? ⟨b, off + i * 4, none⟩ = some (.int .i64 f.kind) ∧ w.cell? ⟨b, off + i * 4 + 1, none⟩ = some (.int .i64 f.flags) ∧
    w.cell? ⟨b, off + i * 4 + 2, none⟩ = some (.int .i64 f.stream) ∧ w.cell? ⟨b, off + i * 4 + 3, none⟩ = some vb ∧ BA.BytesAt w vb f.body ∧ FrOk f) (fun i hi => by
    obtain ⟨b, off, vs, d, ha, hb, hvs, hc, ys, _, _, hf⟩ := h4 i hi
    match vs, hvs with
    | [v0, v1, v2, v3], _ =>
      obtain ⟨n0, y0, _, r0⟩ := hf 0 f0 v0 rfl rfl
      obtain ⟨n1, y1, _, r1⟩ := hf 1 f1 v1 rfl rfl
      obtain ⟨n2, y2, _, r2⟩ := hf 2 f2 v2 rfl rfl
      obtain ⟨n3, y3, _, r3⟩ := hf 3 f3 v3 rfl rfl
      rw [t0] at r0; rw [t1] at r1; rw [t2] at r2; rw [t3] at r3
      obtain ⟨z0, rfl, b0⟩ := trodInt r0
      obtain ⟨z1, rfl, b1⟩ := trodInt r1
      obtain ⟨z2, rfl, b2⟩ := trodInt r2
      obtain ⟨vb, body, e, hB, hbb⟩ := bytes_of Tryz.underlying30 Tryz.underlying5 (by kernel_rfl) r3
      simp only [List.cons.injEq, and_true] at e
      subst e
      refine ⟨⟨z0, z1, z2, body⟩, b, off, v3, ha, hb, hc 0 (by simp), ?_, ?_, ?_, hB, b0, b1, b2, hbb⟩
      · rw [Nat.add_assoc]; exact hc 1 (by simp)
      · rw [Nat.add_assoc]; exact hc 2 (by simp)
      · rw [Nat.add_assoc]; exact hc 3 (by simp))
  subst hl
  exact ⟨_, fs, rfl, a, cap, rfl, h1, h2, h3, fun i hi => hp i hi⟩
end
end Go.Proofs.YtegngpingfjedaaGreatDoor.Args
