/-
  A request and a reply that came in, by value.
  Conditions: none.
-/
import Derived.Test.YtooplackonnemaaDoorMsgAt
import Derived.Lib.SmallJoins
namespace Go.Proofs.YtooplackonnemaaDoor.Args
open Go.RowKit Go.ChangeShapes Go.WideShapes RowsK FieldRows
set_option linter.unusedVariables false
set_option linter.unusedSimpArgs false

section
variable {H : Type} {enc : TypeId × Value → H} {w : World}
theorem bytes5 {cs : Array Value} (h : cs.size = 5) : ∃ a b c d e, cs = #[a, b, c, d, e] := by
  obtain ⟨l⟩ := cs
  match l, h with
  | [a, b, c, d, e], _ => exact ⟨a, b, c, d, e, rfl⟩
theorem bytes3 {cs : Array Value} (h : cs.size = 3) : ∃ a b c, cs = #[a, b, c] := by
  obtain ⟨l⟩ := cs
  match l, h with
  | [a, b, c], _ => exact ⟨a, b, c, rfl⟩
set_option maxRecDepth 100000 in
theorem requestFields : ∃ f0 f1 f2 f3 f4 : Go.Field, Tryd.prog.underlying 25 = some (.struct #[f0, f1, f2, f3, f4]) ∧ (f0.type = 9 ∧ f1.type = 9 ∧ f2.type = 9 ∧ f3.type = 22 ∧ f4.type = 23) ∧ (f0.offset = 0 ∧ f1.offset = 1 ∧ f2.offset = 2 ∧ f3.offset = 3 ∧ f4.offset = 4) := by
  refine ⟨_, _, _, _, _, Tryd.underlying25, ⟨rfl, rfl, rfl, rfl, rfl⟩, rfl, rfl, rfl, rfl, rfl⟩
theorem cells1 : Tryd.prog.cellsOf 9 = 1 ∧ Tryd.prog.cellsOf 22 = 1 ∧ Tryd.prog.cellsOf 23 = 1 ∧ Tryd.prog.cellsOf 3 = 1 := ⟨by kernel_rfl, by kernel_rfl, by kernel_rfl, by kernel_rfl⟩
set_option maxRecDepth 100000 in
theorem request_of {r : Reach} {b0 : Nat} {v : Value} {d : DataW H} {p : List MemPlace} (hv : Value.okWide Tryd.prog w r b0 25 v) (h : DataW.Trod enc Tryd.prog w 0 (fun _ => true) true 25 v d p) :
    ∃ (q : LineM.Rq) (vf vb : Value), v = LineM.rqV q vf vb ∧ LineM.RqAt w vf vb q := by
  obtain ⟨f0, f1, f2, f3, f4, hu, ⟨t0, t1, t2, t3, t4⟩, o0, o1, o2, o3, o4⟩ := requestFields
  obtain ⟨c1, c2, c3, _⟩ := cells1
  obtain ⟨cs, rfl, hsz⟩ := okWide_struct hu hv
  obtain ⟨x0, x1, x2, x3, x4, rfl⟩ := bytes5 (hsz.trans (by kernel_rfl))
  obtain ⟨fuel, hf⟩ := h
  obtain ⟨xs, n, _, _, _, hxl, hat⟩ := DataW.trod_struct hu hf
  have hxl : xs.length = 5 := by simpa using hxl
  have r0 := hat 0 f0 rfl
  have r1 := hat 1 f1 rfl
  have r2 := hat 2 f2 rfl
  have r3 := hat 3 f3 rfl
  have r4 := hat 4 f4 rfl
  rw [t0, c1, o0, List.getElem?_eq_getElem (by omega)] at r0
  rw [t1, c1, o1, List.getElem?_eq_getElem (by omega)] at r1
  rw [t2, c1, o2, List.getElem?_eq_getElem (by omega)] at r2
  rw [t3, c2, o3, List.getElem?_eq_getElem (by omega)] at r3
  rw [t4, c3, o4, List.getElem?_eq_getElem (by omega)] at r4
  obtain ⟨z0, e0, b0⟩ := trodStr (v := x0) r0
  obtain ⟨z1, e1, b1⟩ := trodStr (v := x1) r1
  obtain ⟨z2, e2, b2⟩ := trodStr (v := x2) r2
  obtain ⟨v3, fl, e3, a3⟩ := apifield_of (cs := [x3]) r3
  obtain ⟨v4, bl, e4, a4⟩ := bytes_of (cs := [x4]) Tryd.underlying23 Tryd.underlying5 (by kernel_rfl) r4
  simp only [List.cons.injEq, and_true] at e3 e4
  subst e0 e1 e2 e3 e4
  exact ⟨⟨z0, z1, z2, fl, bl⟩, x3, x4, rfl, ⟨a3, a4, b0, b1, b2⟩⟩
set_option maxRecDepth 100000 in
theorem replyFields : ∃ f0 f1 f2 : Go.Field, Tryd.prog.underlying 27 = some (.struct #[f0, f1, f2]) ∧ (f0.type = 3 ∧ f1.type = 22 ∧ f2.type = 23) ∧ (f0.offset = 0 ∧ f1.offset = 1 ∧ f2.offset = 2) := by
  refine ⟨_, _, _, Tryd.underlying27, ⟨rfl, rfl, rfl⟩, rfl, rfl, rfl⟩
theorem cells1r : Tryd.prog.cellsOf 3 = 1 ∧ Tryd.prog.cellsOf 22 = 1 ∧ Tryd.prog.cellsOf 23 = 1 := ⟨by kernel_rfl, by kernel_rfl, by kernel_rfl⟩
set_option maxRecDepth 100000 in
theorem reply_of {r : Reach} {b0 : Nat} {v : Value} {d : DataW H} {p : List MemPlace} (hv : Value.okWide Tryd.prog w r b0 27 v) (h : DataW.Trod enc Tryd.prog w 0 (fun _ => true) true 27 v d p) :
    ∃ (q : LineM.Rp) (vf vb : Value), v = LineM.rpV q vf vb ∧ LineM.RpAt w vf vb q := by
  obtain ⟨f0, f1, f2, hu, ⟨t0, t1, t2⟩, o0, o1, o2⟩ := replyFields
  obtain ⟨c1, c2, c3⟩ := cells1r
  obtain ⟨cs, rfl, hsz⟩ := okWide_struct hu hv
  obtain ⟨x0, x1, x2, rfl⟩ := bytes3 (hsz.trans (by kernel_rfl))
  obtain ⟨fuel, hf⟩ := h
  obtain ⟨xs, n, _, _, _, hxl, hat⟩ := DataW.trod_struct hu hf
  have hxl : xs.length = 3 := by simpa using hxl
  have r0 := hat 0 f0 rfl
  have r1 := hat 1 f1 rfl
  have r2 := hat 2 f2 rfl
  rw [t0, c1, o0, List.getElem?_eq_getElem (by omega)] at r0
  rw [t1, c2, o1, List.getElem?_eq_getElem (by omega)] at r1
  rw [t2, c3, o2, List.getElem?_eq_getElem (by omega)] at r2
  obtain ⟨z0, e0, _, b0⟩ := DataW.trod_int (cs := [x0]) Tryd.underlying3 r0
  obtain ⟨v3, fl, e3, a3⟩ := apifield_of (cs := [x1]) r1
  obtain ⟨v4, bl, e4, a4⟩ := bytes_of (cs := [x2]) Tryd.underlying23 Tryd.underlying5 (by kernel_rfl) r2
  simp only [List.cons.injEq, and_true] at e0 e3 e4
  subst e0 e3 e4
  exact ⟨⟨z0, fl, bl⟩, x1, x2, rfl, ⟨a3, a4, bounds_i64 b0⟩⟩
end
end Go.Proofs.YtooplackonnemaaDoor.Args
