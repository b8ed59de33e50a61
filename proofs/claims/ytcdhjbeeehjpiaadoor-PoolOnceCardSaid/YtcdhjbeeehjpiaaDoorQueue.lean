/-
  A slice of one-cell elements that is cut at its head and appended to: where in its block it begins is left open.
  Conditions: the length.
-/
import Derived.Test.YtcdhjbeeehjpiaaDoorRows1
import Derived.Lib.Hide
namespace Go.Proofs.YtcdhjbeeehjpiaaDoor.QueL
open Go.RowKit RowsL
set_option linter.unusedVariables false
set_option linter.unusedSimpArgs false

/-- v is a slice of the elements xs in a block of the call's own, wherever it begins there. -/
def Que (w : World) (base : Nat) (e : TypeId) (v : Value) (xs : List Value) : Prop :=
  ∃ a cap, v = .slice a xs.length cap ∧ xs.length ≤ cap ∧ cap ≤ maxLen ∧ ((a = none ∧ xs = [] ∧ cap = 0) ∨
    ∃ g o cur, a = some ⟨g, o, none⟩ ∧ base ≤ g ∧ w.heap[g]? = some (.cells cur e (0, 0)) ∧ o + cap ≤ cur.size ∧ ∀ i, i < xs.length → cur[o + i]? = xs[i]?)
section
variable {P : Program} {t e : TypeId} {z : Value} {nb : Nat} {w w' : World} {base : Nat} {v : Value} {xs : List Value}
theorem Que.nil (w : World) (b : Nat) (e : TypeId) : Que w b e (.slice none 0 0) [] := ⟨none, 0, rfl, Nat.le_refl _, by decide, .inl ⟨rfl, rfl, rfl⟩⟩
theorem Que.of_own (h : Own w base e v xs) : Que w base e v xs := by
  rcases h.2 with ⟨rfl, hn⟩ | ⟨g, cap, cur, rfl, hbg, hg, hnc, hcm, hcs, htake⟩
  · obtain rfl := List.eq_nil_of_length_eq_zero hn
    exact Que.nil _ _ _
  · refine ⟨_, cap, rfl, hnc, hcm, .inr ⟨g, 0, cur, rfl, hbg, hg, by omega, fun i hi => ?_⟩⟩
    have h2 := congrArg (fun l => l[i]?) htake
    simp only [List.getElem?_take, Nat.mul_one] at h2
    rw [if_pos hi] at h2
    rw [Nat.zero_add, ← h2, Array.getElem?_toList]
theorem Que.lt (h : Que w base e v xs) : ∀ k, v.ownBlock = some k → base ≤ k ∧ k < w.heap.size := by
  obtain ⟨a, cap, rfl, _, _, (⟨rfl, _⟩ | ⟨g, o, cur, rfl, hb, hg, _⟩)⟩ := h
  · intro k hk; cases hk
  · intro k hk
    obtain rfl : g = k := Option.some.inj hk
    exact ⟨hb, (Array.getElem?_eq_some_iff.1 hg).1⟩
theorem Que.of_block (h : Que w base e v xs) (hs : ∀ k, v.ownBlock = some k → w'.heap[k]? = w.heap[k]?) : Que w' base e v xs := by
  obtain ⟨a, cap, rfl, h1, h2, (h3 | ⟨g, o, cur, rfl, hb, hg, h4⟩)⟩ := h
  · exact ⟨a, cap, rfl, h1, h2, .inl h3⟩
  · exact ⟨_, cap, rfl, h1, h2, .inr ⟨g, o, cur, rfl, hb, (hs g rfl).trans hg, h4⟩⟩
theorem Que.below (h : Que w base e v xs) (hB : Below w.heap.size w w') : Que w' base e v xs := h.of_block fun k hk => hB.block k (h.lt k hk).2
theorem Que.alloc (h : Que w base e v xs) (o : Obj) : Que (w.alloc o) base e v xs := h.below ((Below.refl _ _).alloc (Nat.le_refl _) _)
theorem Que.slice (h : Que w base e v xs) : ∃ a cap, v = .slice a xs.length cap ∧ xs.length ≤ cap ∧ cap ≤ 9223372036854775807 := by
  obtain ⟨a, cap, e, h1, h2, _⟩ := h
  exact ⟨a, cap, e, h1, by simpa [maxLen] using h2⟩
theorem Que.cell (h : Que w base e v xs) {i : Nat} (hi : i < xs.length) : ∃ g o cap, v = .slice (some ⟨g, o, none⟩) xs.length cap ∧ base ≤ g ∧ g < w.heap.size ∧ w.cell? ⟨g, o + i, none⟩ = some xs[i] := by
  obtain ⟨a, cap, rfl, h1, h2, (⟨_, rfl, _⟩ | ⟨g, o, cur, rfl, hb, hg, h4, h5⟩)⟩ := h
  · simp at hi
  · refine ⟨g, o, cap, rfl, hb, (Array.getElem?_eq_some_iff.1 hg).1, ?_⟩
    have h := h5 i hi
    rw [List.getElem?_eq_getElem hi] at h
    simp [World.cell?, hg, h]
/-- 'v[1:]'. -/
theorem Que.tail {a : Option Addr} {n cap : Nat} {x : Value} (h : Que w base e (.slice a n cap) (x :: xs)) : ∃ g o, a = some ⟨g, o, none⟩ ∧ ∀ q, q = (if cap = 1 then o else o + 1) → Que w base e (.slice (some ⟨g, q, none⟩) (n - 1) (cap - 1)) xs := by
  obtain ⟨a', cap', e0, h1, h2, h3⟩ := h
  simp only [Value.slice.injEq] at e0
  obtain ⟨rfl, rfl, rfl⟩ := e0
  rcases h3 with ⟨_, h, _⟩ | ⟨g, o, cur, rfl, hb, hg, h4, h5⟩
  · cases h
  · refine ⟨g, o, rfl, ?_⟩
    rintro q rfl
    simp only [List.length_cons] at h1 h5 ⊢
    refine ⟨_, cap - 1, rfl, by omega, by omega, .inr ⟨g, _, cur, rfl, hb, hg, by split <;> omega, fun i hi => ?_⟩⟩
    have := h5 (i + 1) (by omega)
    rw [if_neg (by omega), show o + 1 + i = o + (i + 1) by omega, this]; rfl
/-- 'append(s, x)'. -/
theorem run_que (E : Elem P t e z nb) (ty : TypeId) (h : Que w base e v xs) (g0 c : Nat) (y : Value) (hy : w.cell? ⟨g0, 0, none⟩ = some y) (h1 : y.oneCell' = true) (hlen : xs.length < 1000000000) (hbase : base ≤ w.heap.size) :
    ∃ v' w', (Builtin.append_ #[t, t] ty #[v, .slice (some ⟨g0, 0, none⟩) 1 c]).run P w = .ok v' w' ∧ Que w' base e v' (xs ++ [y]) ∧ w.grownBy w' v.ownBlock ∧ ∀ k, v'.ownBlock = some k → v.ownBlock = some k ∨ w.heap.size ≤ k := by
  obtain ⟨i0, hi, hz0, hz1, hz2⟩ := info_parts E.info
  have hs1 := E.small
  have hnews : ∀ j u, [y][j]? = some u → w.cell? ((⟨g0, 0, none⟩ : Addr).add j) = some u := by
    intro j u hj
    cases j with
    | zero => simp at hj; subst hj; simpa [Addr.add] using hy
    | succ j => simp at hj
  have hb : (xs.length + 1) * nb ≤ 140737488355328 := by
    calc (xs.length + 1) * nb ≤ (xs.length + 1) * 16 := Nat.mul_le_mul_left _ hs1.2
      _ ≤ 140737488355328 := by omega
  obtain ⟨a, cap, rfl, hc1, hc2, (⟨rfl, rfl, rfl⟩ | ⟨g, o, cur, rfl, hbg, hg, hfit, hel⟩)⟩ := h
  · obtain ⟨v', w', hr, h2, h3, g, h4, h5⟩ := run_append_where E ty base _ [] (Own.nil w base e) ⟨g0, 0, none⟩ c [y] (by simp) hnews (by simpa using h1) (by simp) hbase
    refine ⟨v', w', hr, Que.of_own h2, h3, fun k hk => ?_⟩
    rw [h4] at hk
    obtain rfl := Option.some.inj hk
    rcases h5 with h5 | h5
    · exact .inl h5
    · exact .inr (by omega)
  · by_cases hroom : xs.length + 1 ≤ cap
    · have hf := run_firstCells_some (P := P) w i0.size 1 ⟨g0, 0, none⟩ 1 c [y] (by rw [hz1]; rfl) hnews
      have hst := run_storeCells_at P g (o + xs.length) e [y] 0 cur w hg (by simp; omega) (by simpa using h1)
      simp only [Nat.add_zero, List.length_singleton] at hst
      refine ⟨.slice (some ⟨g, o, none⟩) (xs.length + 1) cap, w.setRow g (cur.toList.take (o + xs.length) ++ [y] ++ cur.toList.drop (o + xs.length + 1)).toArray, ?_, ⟨_, cap, by rw [List.length_append]; rfl, by simp; omega, hc2, .inr ⟨g, o, _, rfl, hbg, setRow_heap w g cur _ e _ hg, ?_, fun i hi => ?_⟩⟩, ⟨rfl, rfl, rfl, by simp, fun k _ hk => setRow_other w g k _ (fun e => hk (by rw [e]; rfl))⟩, fun k hk => .inl hk⟩
      · rw [hz1] at hf
        simp [Builtin.append_, run_underlying E.under, sizeOf, typeInfo, hi, Builtin.lenOf, hroom, hf, Addr.add_lit, hz1, hst]
      · simp only [List.size_toArray, List.length_append, List.length_take, List.length_drop, Array.length_toList, List.length_singleton]; omega
      · simp only [List.length_append, List.length_singleton] at hi
        rw [List.getElem?_toArray, List.append_assoc]
        have hlt : (cur.toList.take (o + xs.length)).length = o + xs.length := by rw [List.length_take, Nat.min_eq_left (by rw [show cur.toList.length = cur.size from Array.length_toList]; omega)]
        rcases Nat.lt_or_ge i xs.length with hlt2 | hge
        · rw [List.getElem?_append_left (by rw [hlt]; omega), List.getElem?_take, if_pos (by omega), Array.getElem?_toList, hel i hlt2, List.getElem?_append_left hlt2]
        · obtain rfl : i = xs.length := by omega
          rw [List.getElem?_append_right (by rw [hlt]; exact Nat.le_refl _), hlt, Nat.sub_self, List.getElem?_append_right (Nat.le_refl _), Nat.sub_self]; rfl
    · have holds : ∀ j u, xs[j]? = some u → w.cell? ((⟨g, o, none⟩ : Addr).add j) = some u := by
        intro j u hj
        have hj' : j < xs.length := (List.getElem?_eq_some_iff.1 hj).1
        have := hel j hj'
        simp only [Addr.add_lit, World.cell?, hg]
        rw [this]; exact hj
      have hr := run_append_grow (P := P) w t ty e i0 z E.under hi hz0 ⟨g, o, none⟩ xs.length cap xs (by rw [hz1]; omega) holds ⟨g0, 0, none⟩ 1 c [y] (by rw [hz1]; rfl) hnews (by omega) (by omega) (growslice_fits (by omega) (by rw [hz2]; exact hb))
      refine ⟨_, _, hr, ⟨_, grownCap w (xs.length + 1) cap e, by rw [List.length_append]; rfl, ?_, grownCap_le_maxLen w _ _ e (by simp only [maxLen]; omega), .inr ⟨w.heap.size, 0, _, rfl, hbase, heap_alloc_new w.drew _, ?_, fun i hi => ?_⟩⟩, ⟨rfl, rfl, rfl, by simp, fun k hk _ => heap_alloc_old w.drew _ hk⟩, fun k hk => .inr (Nat.le_of_eq (Option.some.inj hk))⟩
      · have := grownCap_ge w (xs.length + 1) cap e
        simpa using this
      · have := grownCap_ge w (xs.length + 1) cap e
        simp only [Array.size_append, List.size_toArray, size_zeroCells, E.one, List.length_singleton]
        omega
      · rw [Nat.zero_add, Array.getElem?_append_left (by simpa using hi)]; simp
end
/-- The same at a plain region's list. -/
theorem wpList_que {P : Program} {t e : TypeId} {z : Value} {nb : Nat} (E : Elem P t e z nb) {ops : Array Oper} {rest : List Oper} {o : Oper} {a : Act} {Q : Exit → Act → World → Prop} {w : World} (hgd : o.guard = none) (s x : Operand)
    (ho : o.op = .call { callee := .builtin .append, args := #[s, x], argTypes := #[t, t] })
    (base : Nat) (v : Value) (xs : List Value) (hs : a.eval s = v) (h : Que w base e v xs) (g c : Nat) (y : Value)
    (hx : a.eval x = .slice (some ⟨g, 0, none⟩) 1 c) (hy : w.cell? ⟨g, 0, none⟩ = some y) (h1 : y.oneCell' = true) (hlen : xs.length < 1000000000) (hbase : base ≤ w.heap.size)
    (hk : ∀ v' w', Que w' base e v' (xs ++ [y]) → w.grownBy w' v.ownBlock → (∀ k, v'.ownBlock = some k → v.ownBlock = some k ∨ w.heap.size ≤ k) → wpList P ops Q rest (a.put o.dst v') w') : wpList P ops Q (o :: rest) a w := by
  obtain ⟨v', w', hr, h2, h3, h4⟩ := run_que E o.type h g c y hy h1 hlen hbase
  refine wpList_plain hgd fun K hK => ?_
  unfold Oper.wp execOp
  simp only [ho, resolve, invoke, builtin, Sem.run_bind, Sem.run_pure, Result.andThen_ok, List.map_toArray, List.map_cons, List.map_nil, hs, hx, hr]
  exact hK _ _ (hk v' w' h2 h3 h4)
end Go.Proofs.YtcdhjbeeehjpiaaDoor.QueL
