/-
  Slices of structs of the call's own: 'clear' behind their end; an append that has room, as a run and as a step of a region.
  Conditions: none.
-/
import Derived.Test.YtooplackonnemaaDoorRowsMore
import Derived.Lib.AppendZeros
namespace Go.Proofs.YtooplackonnemaaDoor.RowsM
open Go.RowKit RowsK
set_option linter.unusedSimpArgs false
set_option linter.unusedVariables false

variable {P : Program} {α : Type} {E : Enc α}
/-- 'clear' of what stands behind an owned slice's end. -/
theorem run_clear_tail {t e : TypeId} {z : Value} (hu : P.underlying t = some (.slice e)) (hz : ∀ w, (zeroValue e).run P w = .ok z w) (hzs : z.cells.size = E.k) (hzo : ∀ v ∈ z.cells, v.oneCell' = true)
    {w : World} {base b c i : Nat} {ys : List α} (h : Own E w base e (.slice (some ⟨b, 0, none⟩) i c) ys) (hi : ys.length = i) (m : Nat) (hm : i + m ≤ c) (A : Option Addr) (c' : Nat) (hA : 0 < m → A = some ⟨b, i * E.k, none⟩) :
    ∃ w', (∀ ty, (Builtin.clear_ #[t] ty #[.slice A m c']).run P w = .ok (.tuple #[]) w') ∧ Own E w' base e (.slice (some ⟨b, 0, none⟩) i c) ys ∧ w.grownBy w' (some b) := by
  rcases Nat.eq_zero_or_pos m with hm0 | hmp
  · subst hm0
    refine ⟨w, fun ty => ?_, h, World.grownBy.refl w _⟩
    cases A <;> simp [Builtin.clear_, run_underlying hu]
  · obtain rfl := hA hmp
    obtain ⟨h1, h2⟩ := h
    rcases h2 with ⟨h2, _⟩ | ⟨g', cap', cur, hv, hg, hh, hnn, hmx, hs, ht⟩
    · cases h2
    · simp only [Value.slice.injEq, Option.some.injEq, Addr.mk.injEq, and_true] at hv
      obtain ⟨rfl, hnl, rfl⟩ := hv
      obtain ⟨Z, hZ⟩ : ∃ Z, (Builtin.zeroCells z.cells m).toList = Z := ⟨_, rfl⟩
      have hzl : Z.length = m * E.k := by rw [← hZ, Array.length_toList, size_zeroCells, hzs]
      have hk := E.pos
      have hone : ∀ v ∈ Z, v.oneCell' = true := by
        intro v hv
        rw [← hZ] at hv
        have hv := Array.mem_toList_iff.1 hv
        unfold Builtin.zeroCells at hv
        obtain ⟨j, _, rfl⟩ := Array.mem_map.1 hv
        refine hzo _ ?_
        rw [getElem!_pos z.cells _ (Nat.mod_lt _ (by omega))]
        exact Array.getElem_mem _
      have hfit : i * E.k + m * E.k ≤ cur.size := by
        rw [hs, ← Nat.add_mul]
        exact Nat.mul_le_mul_right _ hm
      have hst := run_storeCells_at P b (i * E.k) e Z 0 cur w hh (by rw [hzl]; omega) hone
      refine ⟨w.setRow b (cur.toList.take (i * E.k + 0) ++ Z ++ cur.toList.drop (i * E.k + 0 + Z.length)).toArray, fun ty => ?_, ⟨h1, .inr ⟨b, c, (cur.toList.take (i * E.k + 0) ++ Z ++ cur.toList.drop (i * E.k + 0 + Z.length)).toArray, by rw [hnl], hg, setRow_heap w b cur _ e (0, 0) hh, hnn, hmx, ?_, ?_⟩⟩, ⟨rfl, rfl, rfl, by simp, fun k _ hk => setRow_other w b k _ (fun e => hk (by rw [e]))⟩⟩
      · obtain ⟨m', rfl⟩ : ∃ m', m = m' + 1 := ⟨m - 1, by omega⟩
        simp [Builtin.clear_, run_underlying hu, hz, hZ, hst]
      · simp only [List.size_toArray, List.length_append, List.length_take, List.length_drop, Array.length_toList, hzl]
        rw [← hs]
        omega
      · rw [← ht]
        show ((cur.toList.take (i * E.k + 0) ++ Z ++ cur.toList.drop (i * E.k + 0 + Z.length))).take (ys.length * E.k) = cur.toList.take (ys.length * E.k)
        rw [hi, Nat.add_zero, List.append_assoc, List.take_append_of_le_length (by rw [List.length_take, Array.length_toList]; omega), List.take_take, Nat.min_self]
/-- An append that has room stays where it is. -/
theorem run_append_stays {t : TypeId} {nb : Nat} {e : TypeId} (L : Elem P t e E.k nb) (ty : TypeId) {w : World} {base b c i : Nat} {xs : List α} (h : Own E w base e (.slice (some ⟨b, 0, none⟩) i c) xs) (hi : xs.length = i) (a : Option Addr) (m c2 : Nat) (ys : List α) (hy : At E w (.slice a m c2) ys) (hm : ys.length = m) (hroom : i + m ≤ c) :
    ∃ w', (Builtin.append_ #[t, t] ty #[.slice (some ⟨b, 0, none⟩) i c, .slice a m c2]).run P w = .ok (.slice (some ⟨b, 0, none⟩) (i + m) c) w' ∧ Own E w' base e (.slice (some ⟨b, 0, none⟩) (i + m) c) (xs ++ ys) ∧ w.grownBy w' (some b) := by
  obtain ⟨i0, z, hi0, hz0, hz1, hz2, hzs⟩ := L.info
  have hs1 := L.small
  have h0 := h
  obtain ⟨h1, h2⟩ := h
  rcases h2 with ⟨h2, _⟩ | ⟨g', cap', cur, hv, hg, hh, hnn, hmx, hs, ht⟩
  · cases h2
  · simp only [Value.slice.injEq, Option.some.injEq, Addr.mk.injEq, and_true] at hv
    obtain ⟨rfl, hnl, rfl⟩ := hv
    cases a with
    | none =>
      obtain ⟨a', cap', e', hc1, hc2, hnil, _⟩ := hy
      simp only [Value.slice.injEq] at e'
      obtain ⟨rfl, _, rfl⟩ := e'
      have hm0 : m = 0 := by have := hnil rfl; omega
      subst hm0
      have hy0 : ys = [] := List.eq_nil_of_length_eq_zero hm
      subst hy0
      have hc20 : c2 = 0 := hnil rfl
      subst hc20
      refine ⟨w, ?_, by simpa using h0, World.grownBy.refl w _⟩
      have := run_append_owned_none (P := P) w base t ty e i0 E.k L.under hi0 (.slice (some ⟨b, 0, none⟩) i c) xs.length (E.flat xs) h0
      simpa using this
    | some ad =>
      obtain ⟨_, hcells⟩ := At.cells hy
      have hfl : (E.flat ys).length = m * E.k := by rw [E.flat_len, hm]
      have hfit : i * E.k + (E.flat ys).length ≤ cur.size := by rw [hfl, hs, ← Nat.add_mul]; exact Nat.mul_le_mul_right _ hroom
      have hr := run_append_room (P := P) w t ty e i0 L.under hi0 b i c cur hh ad m c2 (E.flat ys) (by rw [hz1]; exact hfl) hcells (E.flat_one ys) hroom (by rw [hz1]; exact hfit)
      rw [hz1] at hr
      refine ⟨_, hr, ⟨by rw [E.flat_len], .inr ⟨b, c, _, by rw [List.length_append, hi, hm], hg, setRow_heap w b cur _ e (0, 0) hh, by rw [List.length_append]; omega, hmx, ?_, ?_⟩⟩, ⟨rfl, rfl, rfl, by simp, fun k _ hk => setRow_other w b k _ (fun e => hk (by rw [e]))⟩⟩
      · simp only [List.size_toArray, List.length_append, List.length_take, List.length_drop, Array.length_toList]
        rw [← hs]
        omega
      · rw [List.length_append, hi, hm, E.flat_app]
        rw [hi] at ht
        show ((cur.toList.take (i * E.k) ++ E.flat ys ++ cur.toList.drop (i * E.k + (E.flat ys).length))).take ((i + m) * E.k) = _
        rw [ht]
        exact List.take_left' (by rw [List.length_append, hfl, E.flat_len, hi, Nat.add_mul])
theorem step_append_run {ops : Array Oper} {o : Oper} {a : Act} {w : World} {K : Act → World → Prop} {Q : Exit → Act → World → Prop} {F : Prop}
    (hg : o.guard = none) (d x : Operand) (t : TypeId) (hop : o.op = Op.call { callee := Callee.builtin Builtin.append, args := #[d, x], argTypes := #[t, t] })
    (v u : Value) (hd : a.eval d = v) (hx : a.eval x = u) {v' : Value} {w' : World} (hr : (Builtin.append_ #[t, t] o.type #[v, u]).run P w = .ok v' w') (hK : K (a.put o.dst v') w') :
    if Region.wanted o (yielded ops a.tmps) = true then Oper.wp P o a w K Q else F := by
  have hw : Region.wanted o (yielded ops a.tmps) = true := by simp [Region.wanted, hg]
  rw [if_pos hw]
  unfold Oper.wp
  simp [execOp, hop, resolve, invoke, builtin, hd, hx, hr, Result.andThen]
  exact hK
end Go.Proofs.YtooplackonnemaaDoor.RowsM
