/-
  An api.Entry by value, and a []api.Entry, that came in.
  Conditions: none.
-/
import Derived.Test.YtcpkikillmmjcaaGreatDoorArgs
import Derived.Test.YtcpkikillmmjcaaGreatDoorLogC
import Derived.Test.YtcpkikillmmjcaaGreatDoorRowsK
import Derived.Test.YtcpkikillmmjcaaGreatDoorStructs
import Derived.OpenShut
import Derived.Lib.SmallJoins
namespace Go.Proofs.YtcpkikillmmjcaaGreatDoor.Args
open Go.RowKit Go.ChangeShapes Go.WideShapes RowsK LogC LogP
set_option linter.unusedVariables false
set_option linter.unusedSimpArgs false

def encE : Enc En := ⟨6, fun e => [.int .i64 e.time, .int .i64 e.code, .int .i64 e.bytes, .int .i64 e.took, .string e.method, .string e.path], fun _ => rfl, fun x v hv => by simp at hv; rcases hv with rfl | rfl | rfl | rfl | rfl | rfl <;> rfl, by decide⟩
def EnOk (e : En) : Prop := (I64 e.time ∧ I64 e.code ∧ I64 e.bytes ∧ I64 e.took) ∧ e.method.size ≤ maxLen ∧ e.path.size ≤ maxLen
/-- v is a []api.Entry with these elements. -/
def EntrysAt (w : World) (v : Value) (l : List En) : Prop := At encE w v l ∧ ∀ e ∈ l, EnOk e
section
variable {H : Type} {enc : TypeId × Value → H} {w : World} {base : Nat} {held : Bool}
theorem choose_entries {α : Type} (n : Nat) (p : Nat → α → Prop) (h : ∀ i, i < n → ∃ a, p i a) : ∃ l : List α, l.length = n ∧ ∀ i (hi : i < l.length), p i l[i] := by
  induction n with
  | zero => exact ⟨[], rfl, fun i hi => absurd hi (by simp)⟩
  | succ n ih =>
    obtain ⟨l, hl, hp⟩ := ih (fun i hi => h i (by omega))
    obtain ⟨a, ha⟩ := h n (by omega)
    refine ⟨l ++ [a], by simp [hl], fun i hi => ?_⟩
    simp only [List.length_append, List.length_singleton, hl] at hi
    by_cases hin : i < l.length
    · rw [List.getElem_append_left hin]; exact hp i hin
    · obtain rfl : i = n := by omega
      rw [List.getElem_append_right (by omega)]
      simpa [hl] using ha
theorem entryFields : ∃ f0 f1 f2 f3 f4 f5 : Go.Field, Tryz.prog.underlying 23 = some (.struct #[f0, f1, f2, f3, f4, f5]) ∧ (f0.type = 3 ∧ f1.type = 3 ∧ f2.type = 3 ∧ f3.type = 3 ∧ f4.type = 9 ∧ f5.type = 9) ∧ (f0.offset = 0 ∧ f1.offset = 1 ∧ f2.offset = 2 ∧ f3.offset = 3 ∧ f4.offset = 4 ∧ f5.offset = 5) ∧ Go.Deep.oneCellFields Tryz.prog #[f0, f1, f2, f3, f4, f5] = true := by
  refine ⟨_, _, _, _, _, _, Tryz.underlying23, ⟨rfl, rfl, rfl, rfl, rfl, rfl⟩, ⟨rfl, rfl, rfl, rfl, rfl, rfl⟩, by kernel_rfl⟩
theorem trodStrE {n : Nat} {v : Value} {y : DataW H × List MemPlace} (h : DataW.trod enc Tryz.prog w base (fun _ => true) held n 9 [v] = some y) : ∃ s : ByteArray, v = .string s ∧ s.size ≤ maxLen := by
  obtain ⟨z, e, _, hw⟩ := DataW.trod_string Tryz.underlying9 h
  simp only [List.cons.injEq, and_true] at e
  exact ⟨z, e, hw⟩
theorem trodIntE {n : Nat} {v : Value} {y : DataW H × List MemPlace} (h : DataW.trod enc Tryz.prog w base (fun _ => true) held n 3 [v] = some y) : ∃ z, v = .int .i64 z ∧ I64 z := by
  obtain ⟨z, e, _, hw⟩ := DataW.trod_int Tryz.underlying3 h
  simp only [List.cons.injEq, and_true] at e
  exact ⟨z, e, bounds_i64 hw⟩
theorem apientry_of {fuel : Nat} {cs : List Value} {x : DataW H × List MemPlace} (h : DataW.trod enc Tryz.prog w base (fun _ => true) held fuel 36 cs = some x) : ∃ v zs, cs = [v] ∧ EntrysAt w v zs := by
  obtain ⟨f0, f1, f2, f3, f4, f5, hu, ⟨t0, t1, t2, t3, t4, t5⟩, -, hone⟩ := entryFields
  obtain ⟨a, len, cap, rfl, h1, h2, h3, h4⟩ := StructsL.structs_of Tryz.underlying36 hu hone (by kernel_rfl) (by simp) h
  obtain ⟨fs, hl, hp⟩ := choose_entries len (fun i (r : En) => (∃ b off, a = some ⟨b, off, none⟩ ∧ b < w.heap.size ∧ ∀ j, j < encE.k → w.cell? ⟨b, off + (i * encE.k + j), none⟩ = (encE.enc r)[j]?) ∧ EnOk r) (fun i hi => by
    obtain ⟨b, off, vs, d, ha, hb, hvs, hc, ys, _, _, hf⟩ := h4 i hi
    match vs, hvs with
    | [v0, v1, v2, v3, v4, v5], _ =>
      obtain ⟨n0, y0, _, r0⟩ := hf 0 f0 v0 rfl rfl
      obtain ⟨n1, y1, _, r1⟩ := hf 1 f1 v1 rfl rfl
      obtain ⟨n2, y2, _, r2⟩ := hf 2 f2 v2 rfl rfl
      obtain ⟨n3, y3, _, r3⟩ := hf 3 f3 v3 rfl rfl
      obtain ⟨n4, y4, _, r4⟩ := hf 4 f4 v4 rfl rfl
      obtain ⟨n5, y5, _, r5⟩ := hf 5 f5 v5 rfl rfl
      rw [t0] at r0; rw [t1] at r1; rw [t2] at r2; rw [t3] at r3; rw [t4] at r4; rw [t5] at r5
      obtain ⟨z0, rfl, b0⟩ := trodIntE r0
      obtain ⟨z1, rfl, b1⟩ := trodIntE r1
      obtain ⟨z2, rfl, b2⟩ := trodIntE r2
      obtain ⟨z3, rfl, b3⟩ := trodIntE r3
      obtain ⟨z4, rfl, b4⟩ := trodStrE r4
      obtain ⟨z5, rfl, b5⟩ := trodStrE r5
      exact ⟨⟨z0, z1, z2, z3, z4, z5⟩, ⟨b, off, ha, hb, fun j hj => hc j hj⟩, ⟨b0, b1, b2, b3⟩, b4, b5⟩)
  subst hl
  refine ⟨_, fs, rfl, ⟨a, cap, rfl, h1, h2, h3, fun i hi => (hp i hi).1⟩, fun f hf => ?_⟩
  obtain ⟨i, hi, rfl⟩ := List.getElem_of_mem hf
  exact (hp i hi).2
theorem bytes6 {cs : Array Value} (h : cs.size = 6) : ∃ a b c d e f, cs = #[a, b, c, d, e, f] := by
  obtain ⟨l⟩ := cs
  match l, h with
  | [a, b, c, d, e, f], _ => exact ⟨a, b, c, d, e, f, rfl⟩
theorem cells1e : Tryz.prog.cellsOf 3 = 1 ∧ Tryz.prog.cellsOf 9 = 1 := ⟨by kernel_rfl, by kernel_rfl⟩
set_option maxRecDepth 100000 in
theorem entry_of {r : Reach} {b0 : Nat} {v : Value} {d : DataW H} {p : List MemPlace} (hv : Value.okWide Tryz.prog w r b0 23 v) (h : DataW.Trod enc Tryz.prog w 0 (fun _ => true) true 23 v d p) :
    ∃ e : En, v = enV e ∧ EnOk e := by
  obtain ⟨f0, f1, f2, f3, f4, f5, hu, ⟨t0, t1, t2, t3, t4, t5⟩, ⟨o0, o1, o2, o3, o4, o5⟩, -⟩ := entryFields
  obtain ⟨c1, c2⟩ := cells1e
  obtain ⟨cs, rfl, hsz⟩ := okWide_struct hu hv
  obtain ⟨x0, x1, x2, x3, x4, x5, rfl⟩ := bytes6 (hsz.trans (by kernel_rfl))
  obtain ⟨fuel, hf⟩ := h
  obtain ⟨xs, n, _, _, _, hxl, hat⟩ := DataW.trod_struct hu hf
  have hxl : xs.length = 6 := by simpa using hxl
  have r0 := hat 0 f0 rfl
  have r1 := hat 1 f1 rfl
  have r2 := hat 2 f2 rfl
  have r3 := hat 3 f3 rfl
  have r4 := hat 4 f4 rfl
  have r5 := hat 5 f5 rfl
  rw [t0, c1, o0, List.getElem?_eq_getElem (by omega)] at r0
  rw [t1, c1, o1, List.getElem?_eq_getElem (by omega)] at r1
  rw [t2, c1, o2, List.getElem?_eq_getElem (by omega)] at r2
  rw [t3, c1, o3, List.getElem?_eq_getElem (by omega)] at r3
  rw [t4, c2, o4, List.getElem?_eq_getElem (by omega)] at r4
  rw [t5, c2, o5, List.getElem?_eq_getElem (by omega)] at r5
  obtain ⟨z0, e0, b0⟩ := trodIntE (v := x0) r0
  obtain ⟨z1, e1, b1⟩ := trodIntE (v := x1) r1
  obtain ⟨z2, e2, b2⟩ := trodIntE (v := x2) r2
  obtain ⟨z3, e3, b3⟩ := trodIntE (v := x3) r3
  obtain ⟨z4, e4, b4⟩ := trodStrE (v := x4) r4
  obtain ⟨z5, e5, b5⟩ := trodStrE (v := x5) r5
  subst e0 e1 e2 e3 e4 e5
  exact ⟨⟨z0, z1, z2, z3, z4, z5⟩, rfl, ⟨b0, b1, b2, b3⟩, b4, b5⟩
end
end Go.Proofs.YtcpkikillmmjcaaGreatDoor.Args
