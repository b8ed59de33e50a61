/-
  Slices of structs of the call's own: a store into an element; turned into another.
  Conditions: none.
-/
import Derived.Test.YtooplackonnemaaDoorRowsK
namespace Go.Proofs.YtooplackonnemaaDoor.RowsM
open Go.RowKit RowsK
set_option linter.unusedSimpArgs false
set_option linter.unusedVariables false

theorem flat_set {α : Type} (F : Enc α) : ∀ (l : List α) (i j : Nat) (u : Value) (y : α) (hi : i < l.length), F.enc y = (F.enc l[i]).set j u → j < F.k → F.flat (l.set i y) = (F.flat l).set (i * F.k + j) u := by
  intro l
  induction l with
  | nil => intro i j u y hi; simp at hi
  | cons a l ih =>
    intro i j u y hi he hj
    cases i with
    | zero =>
      simp only [List.set_cons_zero, F.flat_cons, Nat.zero_mul, Nat.zero_add, List.getElem_cons_zero] at he ⊢
      rw [he, List.set_append_left _ _ (by rw [F.len]; exact hj)]
    | succ i =>
      simp only [List.set_cons_succ, F.flat_cons, List.getElem_cons_succ] at he ⊢
      rw [ih i j u y (by simpa using hi) he hj]
      have hle : (F.enc a).length ≤ (i + 1) * F.k + j := by rw [F.len, Nat.add_mul, Nat.one_mul]; omega
      have e2 : (i + 1) * F.k + j - F.k = i * F.k + j := by rw [Nat.add_mul, Nat.one_mul]; omega
      rw [List.set_append_right _ _ hle, F.len, e2]
/-- A store into an owned row, whatever becomes of it. -/
theorem own_cell {α : Type} {F : Enc α} {w : World} {b g n cap : Nat} {e : TypeId} {xs ys : List α} (h : Own F w b e (.slice (some ⟨g, 0, none⟩) n cap) xs) (i : Nat) (u : Value) (hl : ys.length = xs.length) (hy : F.flat ys = (F.flat xs).set i u) :
    Own F (w.setCell ⟨g, i, none⟩ u) b e (.slice (some ⟨g, 0, none⟩) n cap) ys := by
  obtain ⟨h1, h2⟩ := h
  refine ⟨by rw [F.flat_len], ?_⟩
  rcases h2 with ⟨h2, _⟩ | ⟨g', cap', cur, hv, hg, hh, hn, hm, hs, ht⟩
  · cases h2
  · simp only [Value.slice.injEq, Option.some.injEq, Addr.mk.injEq, and_true] at hv
    obtain ⟨rfl, rfl, rfl⟩ := hv
    refine .inr ⟨g, cap, cur.setIfInBounds i u, by rw [hl], hg, ?_, by rw [hl]; exact hn, hm, by simpa using hs, ?_⟩
    · simp only [World.setCell, Array.getElem?_modify, if_true, hh]
      simp
    · rw [hl, hy, ← ht]
      simp only [Array.toList_setIfInBounds]
      rw [List.take_set]
theorem own_store {α : Type} {F : Enc α} {w : World} {b g n cap : Nat} {e : TypeId} {xs : List α} (h : Own F w b e (.slice (some ⟨g, 0, none⟩) n cap) xs) (i j : Nat) (hi : i < xs.length) (hj : j < F.k) (u : Value) (y : α) (hy : F.enc y = (F.enc xs[i]).set j u) :
    Own F (w.setCell ⟨g, i * F.k + j, none⟩ u) b e (.slice (some ⟨g, 0, none⟩) n cap) (xs.set i y) :=
  own_cell h _ u (by rw [List.length_set]) (flat_set F xs i j u y hi hy hj)
theorem own_congr {α : Type} {F : Enc α} {w : World} {b : Nat} {e : TypeId} {v : Value} {xs ys : List α} (h : Own F w b e v xs) (hl : xs.length = ys.length) (hf : F.flat xs = F.flat ys) : Own F w b e v ys := by
  unfold Own at *
  rw [← hl, ← hf]; exact h
theorem own_below {α : Type} {F : Enc α} {w w' : World} {b : Nat} {e : TypeId} {v : Value} {xs : List α} (h : Own F w b e v xs) (hB : Below w.heap.size w w') : Own F w' b e v xs :=
  h.of_block fun k hk => hB.block k (h.lt k hk).2
theorem own_form {α : Type} {F : Enc α} {w : World} {b : Nat} {e : TypeId} {v : Value} {xs : List α} (h : Own F w b e v xs) : ∃ a n c, v = .slice a n c := by
  obtain ⟨a, c, e, _⟩ := h.slice
  exact ⟨a, _, c, e⟩
theorem own_frozen {α : Type} {F : Enc α} {w : World} {b g n cap : Nat} {e : TypeId} {xs : List α} (h : Own F w b e (.slice (some ⟨g, 0, none⟩) n cap) xs) (i : Nat) : w.frozen? ⟨g, i, none⟩ = false := by
  obtain ⟨a, c, e, _, _, _, h4⟩ := h.slice
  simp only [Value.slice.injEq] at e
  obtain ⟨rfl, _, _⟩ := e
  obtain ⟨g', cur, e2, _, _, hh, _⟩ := h4 _ rfl
  simp only [Addr.mk.injEq, and_true] at e2
  subst e2
  simp [World.frozen?, hh]
end Go.Proofs.YtooplackonnemaaDoor.RowsM
