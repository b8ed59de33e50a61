/-
  'append(b, x...)' onto a text turned into bytes; the outcome may be appended to again.
  Conditions: the lengths.
-/
import Derived.Test.YtkohbbnnjakhjaaGreatDoorConvApp
import Derived.ArgAppend
import Derived.Deep.DeepAppendWide
namespace Go.Proofs.YtkohbbnnjakhjaaGreatDoor.BA
open Go.RowKit
set_option linter.unusedVariables false
set_option linter.unusedSimpArgs false

/-- A row of the call's own: a text turned into bytes, or one that grew. -/
def Fresh (w : World) (base : Nat) (v : Value) (l : List Int) : Prop :=
  (∃ g cap, v = .slice (some ⟨g, 0, none⟩) l.length cap ∧ Convd w base g cap l) ∨ BytesL.Own w base v l
theorem Fresh.at {w : World} {base : Nat} {v : Value} {l : List Int} (h : Fresh w base v l) : BytesAt w v l := by
  rcases h with ⟨g, cap, rfl, h⟩ | h
  · exact h.at
  · exact BytesAt.of_own h
theorem Fresh.below {w w' : World} {base : Nat} {v : Value} {l : List Int} (h : Fresh w base v l) (hB : Below w.heap.size w w') : Fresh w' base v l := by
  rcases h with ⟨g, cap, rfl, h⟩ | h
  · exact .inl ⟨g, cap, rfl, h.below hB⟩
  · exact .inr (h.below hB)
theorem frozen_cells {g : Nat} {p : Addr} : ∀ (vs : List Value) (o : Nat) (w : World), (w.setCells g o vs).frozen? p = w.frozen? p := by
  intro vs
  induction vs with
  | nil => intro o w; rfl
  | cons v vs ih => intro o w; exact (ih (o + 1) (w.setCell ⟨g, o, none⟩ v)).trans (by simp)
/-- The arm that grows, for any length that memory bears. -/
theorem grows_wide (w : World) (ty : TypeId) (i0 : TypeInfo) (hi : Tryz.prog.info? 5 = some i0) (hz0 : i0.zero = some (.int .u8 0)) (hz1 : i0.size = 1) (hz2 : i0.bytes = 1) (b : Addr) (n cap : Nat) (olds : List Value) (hlo : olds.length = n)
    (holds : ∀ j u, olds[j]? = some u → w.cell? (b.add j) = some u) (a : Addr) (m c : Nat) (news : List Value) (hl : news.length = m) (hnews : ∀ j u, news[j]? = some u → w.cell? (a.add j) = some u) (hg : cap < n + m) (hw : n + m ≤ 140737488355328 + 1000000000) :
    ∃ v' w', (Builtin.append_ #[23, 23] ty #[.slice (some b) n cap, .slice (some a) m c]).run Tryz.prog w = .ok v' w' ∧ w'.ownsRow w.heap.size 5 1 v' (n + m) (olds ++ news) ∧ w.grownBy w' none := by
  have hlen : (olds ++ news).length = (n + m) * 1 := by rw [List.length_append, hlo, hl, Nat.mul_one]
  have hge := grownCap_ge w (n + m) cap 5
  have hcm : grownCap w (n + m) cap 5 ≤ maxLen := grownCap_le_maxLen w (n + m) cap 5 (by simp only [maxLen]; omega)
  have hr := run_append_grow (P := Tryz.prog) w 23 ty 5 i0 (.int .u8 0) Tryz.underlying23 hi hz0 b n cap olds (by rw [hz1, hlo, Nat.mul_one]) holds a m c news (by rw [hz1, hl, Nat.mul_one]) hnews hg (by omega) (growslice_fits_wide hg (by rw [hz2]; omega))
  refine ⟨_, _, hr, ⟨hlen, .inr ⟨w.heap.size, _, _, rfl, Nat.le_refl _, heap_alloc_new w.drew _, hge, hcm, ?_, ?_⟩⟩, ⟨rfl, rfl, rfl, by simp, fun k hk _ => by have h := heap_alloc_old w.drew (.cells (olds.toArray ++ news.toArray ++ Builtin.zeroCells (Value.cells (.int .u8 0)) (grownCap w (n + m) cap 5 - (n + m))) 5) (r := k) hk; exact h⟩⟩
  · simp only [Array.size_append, List.size_toArray, size_zeroCells, hlo, hl]
    have e2 : (Value.cells (.int .u8 0)).size = 1 := rfl
    rw [e2]
    omega
  · simp only [Array.toList_append, List.append_assoc]
    rw [← List.append_assoc, ← hlen]
    exact List.take_left
set_option maxHeartbeats 1000000 in
/-- 'append(b, x...)' onto such a row, and the outcome may be appended to again. -/
theorem wpList_append_fresh {w : World} {ops : Array Oper} {rest : List Oper} {o : Oper} {a : Act} {Q : Exit → Act → World → Prop} (hgd : o.guard = none) (s x : Operand)
    (ho : o.op = .call { callee := .builtin .append, args := #[s, x], argTypes := #[23, 23] })
    (base g n cap : Nat) (l : List Int) (hs : a.eval s = .slice (some ⟨g, 0, none⟩) n cap) (hn : n = l.length) (hown : Convd w base g cap l) (vx : Value) (y : List Int) (hx : a.eval x = vx) (hy : BytesAt w vx y)
    (hlen : l.length + y.length ≤ 140737488355328 + 1000000000)
    (h : ∀ v' w', Fresh w' base v' (l ++ y) → Below base w w' → wpList Tryz.prog ops Q rest (a.put o.dst v') w') : wpList Tryz.prog ops Q (o :: rest) a w := by
  subst hn
  obtain ⟨i0, hi, hz0, hz1, hz2⟩ := info_parts BytesL.infoB
  obtain ⟨ax, cx, rfl, hc1, hc2, hnil, _⟩ := hy.open
  have hlt := hown.lt
  have hcells : ∀ j u, (BytesL.valB l)[j]? = some u → w.cell? ⟨g, 0 + j, none⟩ = some u := fun j u hu => by
    have hj : j < l.length := by have := (List.getElem?_eq_some_iff.1 hu).1; simpa using this
    rw [Nat.zero_add, hown.cell j hj, ← hu]
    simp [BytesL.valB, List.getElem?_eq_getElem hj]
  cases ax with
  | none =>
    obtain rfl := hnil rfl
    have h0 : y = [] := List.eq_nil_of_length_eq_zero (by omega)
    subst h0
    refine wpList_plain hgd fun K hK => ?_
    have hr : (Builtin.append_ #[23, 23] o.type #[.slice (some ⟨g, 0, none⟩) l.length cap, .slice none 0 0]).run Tryz.prog w = .ok (.slice (some ⟨g, 0, none⟩) l.length cap) w := by
      have hle := hown.le
      simp [Builtin.append_, run_underlying Tryz.underlying23, sizeOf, typeInfo, hi, Builtin.lenOf, hle, Builtin.firstCells, storeCells]
    unfold Oper.wp execOp
    simp only [ho, resolve, invoke, builtin, Sem.run_bind, Sem.run_pure, Result.andThen_ok, List.map_toArray, List.map_cons, List.map_nil, hs, hx, List.length_nil, hr]
    exact hK _ _ (h _ _ (.inl ⟨g, cap, by rw [List.append_nil], by rw [List.append_nil]; exact hown⟩) (Below.refl _ _))
  | some ad =>
    obtain ⟨_, hcs⟩ := bytesAt_add hy
    refine wpList_plain hgd fun K hK => ?_
    have hspare : l.length + y.length ≤ cap → ∀ j, j < (BytesL.valB y).length → (w.cell? ⟨g, 0 + l.length * 1 + j, none⟩).isSome = true ∧ w.frozen? ⟨g, 0 + l.length * 1 + j, none⟩ = false := by
      intro hroom j hj
      rw [BytesL.valB_len] at hj
      have := hown.room (l.length + j) (by omega) (by omega)
      simpa using this
    have hone : ∀ u ∈ BytesL.valB y, u.oneCell' = true := by intro u hu; obtain ⟨z, _, rfl⟩ := List.mem_map.1 hu; rfl
    by_cases hrm : l.length + y.length ≤ cap
    · have hrun := run_append_room_cells (P := Tryz.prog) w 23 o.type 5 i0 Tryz.underlying23 hi g 0 l.length cap ad y.length cx (BytesL.valB y) (by rw [hz1]; simp) hcs hone hrm
        (fun j hj => by rw [hz1]; exact (hspare hrm j hj).1) (fun j hj => by rw [hz1]; exact (hspare hrm j hj).2)
      rw [hz1] at hrun
      unfold Oper.wp
      simp only [execOp, ho, resolve, invoke, builtin, Sem.run_bind, Sem.run_pure, Result.andThen_ok, List.map_toArray, List.map_cons, List.map_nil, hs, hx, hrun]
      refine hK _ _ ?_
      revert hrm
      intro hroom
      have hss : ∀ j, j < (BytesL.valB y).length → (w.cell? ⟨g, l.length + j, none⟩).isSome = true := fun j hj => by
        rw [BytesL.valB_len] at hj
        exact (hown.room (l.length + j) (by omega) (by omega)).1
      have hB : Below base w (w.setCells g (0 + l.length * 1) (BytesL.valB y)) := below_setCells (Below.refl _ _) hown.bg _ _
      refine h _ _ ?_ hB
      refine .inl ⟨g, cap, by rw [List.length_append], hown.bg, Nat.lt_of_lt_of_le hlt hB.size, by rw [List.length_append]; exact hroom, hown.mx, fun i hi2 => ?_, fun j h1 h2 => ?_⟩
      · rw [List.length_append] at hi2
        rw [Nat.zero_add, Nat.mul_one]
        by_cases hil : i < l.length
        · rw [World.cell?_setCells_out g (BytesL.valB y) l.length w ⟨g, i, none⟩ (fun _ _ => .inl hil), hown.cell i hil]
          simp [List.getElem?_append, hil, List.getD_eq_getElem?_getD]
        · obtain ⟨j, rfl⟩ : ∃ j, i = l.length + j := ⟨i - l.length, by omega⟩
          have hj : j < (BytesL.valB y).length := by rw [BytesL.valB_len]; omega
          rw [World.cell?_setCells_in g (BytesL.valB y) l.length w hss j hj]
          have hjy : j < y.length := by simpa using hj
          simp [BytesL.valB, List.getElem?_append, List.getD_eq_getElem?_getD, List.getElem?_eq_getElem hjy]
          rw [if_neg (by omega)]
          rfl
      · rw [List.length_append] at h1
        have h3 := hown.room j (by omega) h2
        rw [Nat.zero_add, Nat.mul_one]
        refine ⟨?_, ?_⟩
        · rw [World.cell?_setCells_out g (BytesL.valB y) l.length w ⟨g, j, none⟩ (fun _ _ => .inr (by rw [BytesL.valB_len]; simp only; omega))]
          exact h3.1
        · rw [frozen_cells]
          exact h3.2
    · obtain ⟨v', w', hrun, ho', hg'⟩ := grows_wide w o.type i0 hi hz0 hz1 hz2 ⟨g, 0, none⟩ l.length cap (BytesL.valB l) (by simp) (fun j u hj => by rw [Addr.add_lit]; exact hcells j u hj) ad y.length cx (BytesL.valB y) (by simp) hcs (by omega) hlen
      unfold Oper.wp
      simp only [execOp, ho, resolve, invoke, builtin, Sem.run_bind, Sem.run_pure, Result.andThen_ok, List.map_toArray, List.map_cons, List.map_nil, hs, hx, hrun]
      refine hK _ _ ?_
      refine h v' w' (.inr ?_) ((Below.refl _ _).grown hg' (by have := hown.bg; omega) (fun k hk => by cases hk))
      refine BytesL.Own.mono (b := w.heap.size) ?_ (by have := hown.bg; omega)
      simpa [BytesL.Own, BytesL.valB] using ho'
end Go.Proofs.YtkohbbnnjakhjaaGreatDoor.BA
