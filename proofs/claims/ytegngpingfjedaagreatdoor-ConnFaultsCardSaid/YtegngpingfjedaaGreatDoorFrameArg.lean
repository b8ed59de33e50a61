/-
  An api.Frame that came in, by value.
  Conditions: none.
-/
import Derived.Test.YtegngpingfjedaaGreatDoorFramesArg
import Derived.Lib.SmallJoins
namespace Go.Proofs.YtegngpingfjedaaGreatDoor.Args
open Go.RowKit Go.ChangeShapes Go.WideShapes FrameC
set_option linter.unusedVariables false
set_option linter.unusedSimpArgs false

section
variable {H : Type} {enc : TypeId × Value → H} {w : World}
theorem frameFields4 : ∃ f0 f1 f2 f3 : Go.Field, Tryz.prog.underlying 38 = some (.struct #[f0, f1, f2, f3]) ∧ (f0.type = 3 ∧ f1.type = 3 ∧ f2.type = 3 ∧ f3.type = 30) ∧ (f0.offset = 0 ∧ f1.offset = 1 ∧ f2.offset = 2 ∧ f3.offset = 3) := by
  refine ⟨_, _, _, _, Tryz.underlying38, ⟨rfl, rfl, rfl, rfl⟩, rfl, rfl, rfl, rfl⟩
theorem cells1f : Tryz.prog.cellsOf 3 = 1 ∧ Tryz.prog.cellsOf 30 = 1 := ⟨by kernel_rfl, by kernel_rfl⟩
theorem bytes4 {cs : Array Value} (h : cs.size = 4) : ∃ a b c d, cs = #[a, b, c, d] := by
  obtain ⟨l⟩ := cs
  match l, h with
  | [a, b, c, d], _ => exact ⟨a, b, c, d, rfl⟩
set_option maxRecDepth 100000 in
theorem frame_of {r : Reach} {b0 : Nat} {v : Value} {d : DataW H} {p : List MemPlace} (hv : Value.okWide Tryz.prog w r b0 38 v) (h : DataW.Trod enc Tryz.prog w 0 (fun _ => true) true 38 v d p) :
    ∃ (f : Fr) (vb : Value), v = f.val vb ∧ BA.BytesAt w vb f.body ∧ FrOk f := by
  obtain ⟨f0, f1, f2, f3, hu, ⟨t0, t1, t2, t3⟩, o0, o1, o2, o3⟩ := frameFields4
  obtain ⟨c1, c2⟩ := cells1f
  obtain ⟨cs, rfl, hsz⟩ := okWide_struct hu hv
  obtain ⟨x0, x1, x2, x3, rfl⟩ := bytes4 (hsz.trans (by kernel_rfl))
  obtain ⟨fuel, hf⟩ := h
  obtain ⟨xs, n, _, _, _, hxl, hat⟩ := DataW.trod_struct hu hf
  have hxl : xs.length = 4 := by simpa using hxl
  have r0 := hat 0 f0 rfl
  have r1 := hat 1 f1 rfl
  have r2 := hat 2 f2 rfl
  have r3 := hat 3 f3 rfl
  rw [t0, c1, o0, List.getElem?_eq_getElem (by omega)] at r0
  rw [t1, c1, o1, List.getElem?_eq_getElem (by omega)] at r1
  rw [t2, c1, o2, List.getElem?_eq_getElem (by omega)] at r2
  rw [t3, c2, o3, List.getElem?_eq_getElem (by omega)] at r3
  obtain ⟨z0, e0, b0⟩ := trodInt (v := x0) r0
  obtain ⟨z1, e1, b1⟩ := trodInt (v := x1) r1
  obtain ⟨z2, e2, b2⟩ := trodInt (v := x2) r2
  obtain ⟨v3, bl, e3, a3, hb3⟩ := bytes_of (cs := [x3]) Tryz.underlying30 Tryz.underlying5 (by kernel_rfl) r3
  simp only [List.cons.injEq, and_true] at e3
  subst e0 e1 e2 e3
  exact ⟨⟨z0, z1, z2, bl⟩, x3, rfl, a3, b0, b1, b2, hb3⟩
end
end Go.Proofs.YtegngpingfjedaaGreatDoor.Args
