/-
  A slice whose elements are of one cell, made by the call: its reading as a list of values, kept over other writes; append of one element, a store, in the walk's words.
  Conditions: none.
-/
import Derived.WalkKit
import Derived.Laws.AppendOwn
import Derived.Laws.OwnMore
namespace Go.Proofs.YtcpkikillmmjcaaGreatDoor.RowsL
open Go.RowKit
set_option linter.unusedVariables false
set_option linter.unusedSimpArgs false

/-- v is a slice of elements of type e that the call owns, from block base on, which reads as xs. -/
def Own (w : World) (base : Nat) (e : TypeId) (v : Value) (xs : List Value) : Prop := w.ownsRow base e 1 v xs.length xs
variable {w w' : World} {b b' : Nat} {e : TypeId} {v : Value} {xs : List Value}
theorem Own.mono (h : Own w b e v xs) (hb : b' ≤ b) : Own w b' e v xs := by
  obtain ⟨h1, h2⟩ := h
  refine ⟨h1, ?_⟩
  rcases h2 with h2 | ⟨g, cap, cur, hv, hg, r⟩
  · exact .inl h2
  · exact .inr ⟨g, cap, cur, hv, by omega, r⟩
theorem Own.nil (w : World) (b : Nat) (e : TypeId) : Own w b e (.slice none 0 0) [] := World.ownsRow_nil _ _ _ _
theorem Own.lt (h : Own w b e v xs) : ∀ k, v.ownBlock = some k → b ≤ k ∧ k < w.heap.size := World.ownsRow.lt h
/-- An owned slice stays while its own block stays. -/
theorem Own.of_block (h : Own w b e v xs) (hs : ∀ k, v.ownBlock = some k → w'.heap[k]? = w.heap[k]?) : Own w' b e v xs := by
  obtain ⟨h1, h2⟩ := h
  refine ⟨h1, ?_⟩
  rcases h2 with h2 | ⟨g, cap, cur, hv, hg, hh, r⟩
  · exact .inl h2
  · exact .inr ⟨g, cap, cur, hv, hg, (hs g (by rw [hv]; rfl)).trans hh, r⟩
theorem Own.alloc (h : Own w b e v xs) (o : Obj) : Own (w.alloc o) b e v xs := World.ownsRow.alloc h o
theorem Own.setCell (h : Own w b e v xs) (a : Addr) (u : Value) (hne : v.ownBlock ≠ some a.block) : Own (w.setCell a u) b e v xs :=
  h.of_block fun k hk => Below.heap_setCell _ _ _ _ (fun e => hne (by rw [hk, e]))
/-- What an owned slice is, in the walk's words. -/
theorem Own.slice (h : Own w b e v xs) : ∃ a cap, v = .slice a xs.length cap ∧ xs.length ≤ cap ∧ cap ≤ 9223372036854775807 ∧ (a = none → xs = []) ∧
    ∀ x, a = some x → ∃ g, x = ⟨g, 0, none⟩ ∧ b ≤ g ∧ g < w.heap.size ∧ (∀ i, i < xs.length → w.cell? ⟨g, i, none⟩ = xs[i]?) ∧ ∀ i, w.frozen? ⟨g, i, none⟩ = false := by
  have h0 := h
  obtain ⟨h1, h2⟩ := h
  rcases h2 with ⟨rfl, h2⟩ | ⟨g, cap, cur, rfl, hg, hh, hn, hm, hs, ht⟩
  · exact ⟨none, 0, by rw [h2], by omega, by decide, fun _ => List.eq_nil_of_length_eq_zero h2, by simp⟩
  · refine ⟨some ⟨g, 0, none⟩, cap, rfl, hn, by simpa [maxLen] using hm, by simp, fun x hx => ?_⟩
    obtain rfl := Option.some.inj hx
    refine ⟨g, rfl, hg, ?_, fun i hi => World.ownsRow.cellAt h0 i (by omega), fun i => World.ownsRow.frozenAt h0 i⟩
    rcases Nat.lt_or_ge g w.heap.size with h | h
    · exact h
    · simp [Array.getElem?_eq_none h] at hh
/-- The same, where it is not empty. -/
theorem Own.slice1 (h : Own w b e v xs) (n : Nat) (hn : xs.length = n) (h0 : 0 < n) : ∃ g cap, v = .slice (some ⟨g, 0, none⟩) n cap ∧ n ≤ cap ∧ cap ≤ 9223372036854775807 ∧ b ≤ g ∧ g < w.heap.size ∧
    (∀ i, i < n → w.cell? ⟨g, i, none⟩ = xs[i]?) ∧ ∀ i, w.frozen? ⟨g, i, none⟩ = false := by
  subst hn
  obtain ⟨a, cap, hv, h1, h2, h3, h4⟩ := h.slice
  cases a with
  | none => rw [h3 rfl] at h0; simp at h0
  | some x =>
    obtain ⟨g, rfl, h5, h6, h7, h8⟩ := h4 x rfl
    exact ⟨g, cap, hv, h1, h2, h5, h6, h7, h8⟩
/-- A store into it. -/
theorem Own.store {g cap n : Nat} (h : Own w b e (.slice (some ⟨g, 0, none⟩) n cap) xs) (hn : n = xs.length) (j : Nat) (u : Value) (hj : j < xs.length) : Own (w.setCell ⟨g, j, none⟩ u) b e (.slice (some ⟨g, 0, none⟩) n cap) (xs.set j u) := by
  subst hn
  have := World.ownsRow.stored (size := 1) h j u
  simpa [Own] using this.1
theorem cell_new1 (w : World) (x : Value) (t : TypeId) : (w.alloc (.cells #[x] t)).cell? ⟨w.heap.size, 0, none⟩ = some x := by simp
theorem le_alloc {w : World} {B : Nat} (o : Obj) (h : B ≤ w.heap.size) : B ≤ (w.alloc o).heap.size := by simp; omega
theorem cell_new1s (w : World) (p : Addr) (u x : Value) (t : TypeId) : ((w.setCell p u).alloc (.cells #[x] t)).cell? ⟨w.heap.size, 0, none⟩ = some x := by
  have := cell_new1 (w.setCell p u) x t
  simpa using this
theorem le_allocs {w : World} {B : Nat} (p : Addr) (u : Value) (o : Obj) (h : B ≤ w.heap.size) : B ≤ ((w.setCell p u).alloc o).heap.size := by simp; omega
/-- The table's row of an element type: its zero, one cell, so many bytes. -/
structure Elem (P : Program) (t e : TypeId) (z : Value) (nb : Nat) : Prop where
  under : P.underlying t = some (.slice e)
  info : (P.info? e).map (fun i => (i.zero, i.size, i.bytes)) = some (some z, 1, nb)
  one : z.cells.size = 1
  small : 1 ≤ nb ∧ nb ≤ 16
/-- 'append(s, y..)': the new slice lies where the old one lay, or in a new block. -/
theorem run_append_where {P : Program} {t : TypeId} {z : Value} {nb : Nat} (E : Elem P t e z nb) (ty : TypeId) (base : Nat) (v : Value) (xs : List Value) (hown : Own w base e v xs)
    (ad : Addr) (c : Nat) (news : List Value) (h0 : 0 < news.length) (hnews : ∀ j u, news[j]? = some u → w.cell? (ad.add j) = some u) (h1 : ∀ u ∈ news, u.oneCell' = true)
    (hlen : xs.length + news.length < 4398046511104) (hbase : base ≤ w.heap.size) :
    ∃ v' w', (Builtin.append_ #[t, t] ty #[v, .slice (some ad) news.length c]).run P w = .ok v' w' ∧ Own w' base e v' (xs ++ news) ∧ w.grownBy w' v.ownBlock ∧
      (∃ g, v'.ownBlock = some g ∧ (v.ownBlock = some g ∨ w.heap.size = g)) := by
  obtain ⟨i0, hi, hz0, hz1, hz2⟩ := info_parts E.info
  have hs1 := E.small
  have hb : (xs.length + news.length) * nb ≤ 140737488355328 := by
    calc (xs.length + news.length) * nb ≤ (xs.length + news.length) * 16 := Nat.mul_le_mul_left _ hs1.2
      _ ≤ 140737488355328 := by omega
  obtain ⟨v', w', hr, h2, h3, h4⟩ := run_append_own (P := P) w base t ty e i0 z 1 nb E.under hi hz0 hz1 hz2 E.one (by decide) v xs.length xs hown ad news.length c news (by omega) hnews h1 (by simp only [maxLen]; omega) hb hbase
  refine ⟨v', w', hr, by simpa [Own] using h2, h3, ?_⟩
  have hown' : xs.length = xs.length * 1 ∧ _ := hown
  rcases hown'.2 with ⟨rfl, hn⟩ | ⟨g, cap, cur, rfl, hbg, hg, hnc, hcm, hcs, htake⟩
  · have hr2 := run_append_nil (P := P) w t ty e i0 z E.under hi hz0 ad news.length c news (by rw [hz1]; omega) hnews (by omega) (by omega) (by
      rw [hz2]
      calc news.length * nb ≤ (xs.length + news.length) * nb := Nat.mul_le_mul_right _ (by omega)
        _ ≤ 281474976710656 := by omega)
    rw [hr] at hr2
    injection hr2 with e1 e2
    subst e1
    exact ⟨_, rfl, .inr rfl⟩
  · by_cases hroom : xs.length + news.length ≤ cap
    · have hr2 := run_append_room (P := P) w t ty e i0 E.under hi g xs.length cap cur hg ad news.length c news (by rw [hz1]; omega) hnews h1 hroom (by rw [hz1, hcs]; omega)
      rw [hr] at hr2
      injection hr2 with e1 e2
      subst e1
      exact ⟨g, rfl, .inl rfl⟩
    · have holds : ∀ j u, xs[j]? = some u → w.cell? ((⟨g, 0, none⟩ : Addr).add j) = some u := World.ownsRow.cells hown (g := g) rfl
      have hr2 := run_append_grow (P := P) w t ty e i0 z E.under hi hz0 ⟨g, 0, none⟩ xs.length cap xs (by rw [hz1]; omega) holds ad news.length c news (by rw [hz1]; omega) hnews (by omega) (by omega) (growslice_fits (by omega) (by rw [hz2]; exact hb))
      rw [hr] at hr2
      injection hr2 with e1 e2
      subst e1
      exact ⟨_, rfl, .inr rfl⟩
/-- 'append(s, x)'. -/
theorem wpList_append1 {P : Program} {t : TypeId} {z : Value} {nb : Nat} (E : Elem P t e z nb) {ops : Array Oper} {rest : List Oper} {o : Oper} {a : Act} {Q : Exit → Act → World → Prop} (hgd : o.guard = none) (s x : Operand)
    (ho : o.op = .call { callee := .builtin .append, args := #[s, x], argTypes := #[t, t] })
    (base : Nat) (v : Value) (xs : List Value) (hs : a.eval s = v) (hown : Own w base e v xs) (g c : Nat) (y : Value)
    (hx : a.eval x = .slice (some ⟨g, 0, none⟩) 1 c) (hy : w.cell? ⟨g, 0, none⟩ = some y) (h1 : y.oneCell' = true) (hlen : xs.length < 4398046511000) (hbase : base ≤ w.heap.size)
    (h : ∀ v' w', Own w' base e v' (xs ++ [y]) → Below base w w' → w.grownBy w' v.ownBlock → (∃ g, v'.ownBlock = some g ∧ (v.ownBlock = some g ∨ w.heap.size = g)) → wpList P ops Q rest (a.put o.dst v') w') : wpList P ops Q (o :: rest) a w := by
  obtain ⟨v', w', hr, h2, h3, h4⟩ := run_append_where E o.type base v xs hown ⟨g, 0, none⟩ c [y] (by simp) (by
    intro j u hj
    cases j with
    | zero => simp at hj; subst hj; simpa [Addr.add] using hy
    | succ j => simp at hj) (by intro u hu; simp at hu; subst hu; exact h1) (by simp; omega) hbase
  refine wpList_plain hgd fun K hK => ?_
  unfold Oper.wp execOp
  simp only [List.length_cons, List.length_nil, Nat.zero_add] at hr
  simp only [ho, resolve, invoke, builtin, Sem.run_bind, Sem.run_pure, Result.andThen_ok, List.map_toArray, List.map_cons, List.map_nil, hs, hx, hr]
  exact hK _ _ (h v' w' h2 ((Below.refl _ _).grown h3 hbase (fun k hk => (hown.lt k hk).1)) h3 h4)
/-- Two owned slices apart from each other, one appended to, then the other: both stay owned, and apart. -/
theorem Own.two {w5 w6 w7 : World} {o1 o2 : Obj} {B : Nat} {e e' : TypeId} {va va' vb vb' : Value} {xa xa' xb : List Value} (H1 : Own w5 B e va xa) (H2 : Own w5 B e' vb xb) (HD : ∀ g, va.ownBlock = some g → vb.ownBlock ≠ some g)
    (ha : Own w6 B e va' xa') (hga : (w5.alloc o1).grownBy w6 va.ownBlock) (hata : ∃ g, va'.ownBlock = some g ∧ (va.ownBlock = some g ∨ (w5.alloc o1).heap.size = g))
    (hgb : (w6.alloc o2).grownBy w7 vb.ownBlock) (hatb : ∃ g, vb'.ownBlock = some g ∧ (vb.ownBlock = some g ∨ (w6.alloc o2).heap.size = g)) :
    Own w7 B e va' xa' ∧ ∀ g, va'.ownBlock = some g → vb'.ownBlock ≠ some g := by
  have hs1 := hga.size
  simp only [World.size_alloc] at hs1
  obtain ⟨ga, ea, hga'⟩ := hata
  obtain ⟨gb, eb, hgb'⟩ := hatb
  have hlt := ha.lt ga ea
  have hne : vb.ownBlock ≠ some ga := by
    intro h
    rcases hga' with h1 | h1
    · exact HD ga h1 h
    · have := H2.lt ga h; simp only [World.size_alloc] at h1; omega
  refine ⟨(ha.alloc o2).of_block fun k hk => ?_, fun g hg => ?_⟩
  · obtain rfl : ga = k := by rw [ea] at hk; exact Option.some.inj hk
    exact hgb.block _ (by simp; omega) (fun h => hne h.symm)
  · obtain rfl : ga = g := by rw [ea] at hg; exact Option.some.inj hg
    rw [eb]
    intro h
    obtain rfl := Option.some.inj h
    rcases hgb' with h1 | h1
    · exact hne h1
    · simp only [World.size_alloc] at h1; omega
/-- What neither row nor a new block is stays over two appends. -/
theorem two_block {w5 w6 w7 : World} {o1 o2 : Obj} {ra rb : Option Nat} (hga : (w5.alloc o1).grownBy w6 ra) (hgb : (w6.alloc o2).grownBy w7 rb) (k : Nat) (hk : k < w5.heap.size) (h1 : ra ≠ some k) (h2 : rb ≠ some k) : w7.heap[k]? = w5.heap[k]? := by
  have hs1 := hga.size
  simp only [World.size_alloc] at hs1
  rw [hgb.block k (by simp; omega) (fun h => h2 h.symm), Below.heap_alloc _ _ _ (by omega), hga.block k (by simp; omega) (fun h => h1 h.symm), Below.heap_alloc _ _ _ hk]
theorem two_size {w5 w6 w7 : World} {o1 o2 : Obj} {ra rb : Option Nat} (hga : (w5.alloc o1).grownBy w6 ra) (hgb : (w6.alloc o2).grownBy w7 rb) : w5.heap.size ≤ w7.heap.size := by
  have h1 := hga.size
  have h2 := hgb.size
  simp only [World.size_alloc] at h1 h2
  omega
theorem two_mod {w5 w6 w7 : World} {o1 o2 : Obj} {B : Nat} (hB1 : Below B (w5.alloc o1) w6) (hB2 : Below B (w6.alloc o2) w7) (h : B ≤ w5.heap.size) (h6 : B ≤ w6.heap.size) : Below B w5 w7 :=
  (((Below.refl B w5).alloc h o1).trans hB1).trans (((Below.refl B w6).alloc h6 o2).trans hB2)
end Go.Proofs.YtcpkikillmmjcaaGreatDoor.RowsL
