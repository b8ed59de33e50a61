/-
  Slices whose elements are structs of k one-cell fields: what a slice reads as; a slice of the call's own; cut, append, copy.
  Conditions: none.
-/
import Derived.WalkKit
import Derived.Laws.AppendOwn
import Derived.Laws.OwnMore
import Derived.Laws.CopyRow
import Derived.Lib.Hide
namespace Go.Proofs.YtooplackonnemaaDoor.RowsK
open Go.RowKit
set_option linter.unusedVariables false
set_option linter.unusedSimpArgs false

/-- How an element is written down: k one-cell values. -/
structure Enc (α : Type) where
  k : Nat
  enc : α → List Value
  len : ∀ x, (enc x).length = k
  one : ∀ x, ∀ v ∈ enc x, v.oneCell' = true
  pos : 0 < k
variable {α : Type} {E : Enc α} {w w' : World} {b b' : Nat} {e : TypeId} {v : Value} {xs : List α}
def Enc.flat (E : Enc α) (l : List α) : List Value := l.flatMap E.enc
theorem Enc.flat_len (E : Enc α) (l : List α) : (E.flat l).length = l.length * E.k := by
  induction l with
  | nil => simp [Enc.flat]
  | cons a l ih => simp only [Enc.flat, List.flatMap_cons, List.length_append, List.length_cons] at ih ⊢; rw [ih, E.len, Nat.add_mul]; omega
theorem Enc.flat_app (E : Enc α) (l r : List α) : E.flat (l ++ r) = E.flat l ++ E.flat r := by simp [Enc.flat]
theorem Enc.flat_cons (E : Enc α) (x : α) (r : List α) : E.flat (x :: r) = E.enc x ++ E.flat r := by simp [Enc.flat]
theorem Enc.flat_one (E : Enc α) (l : List α) : ∀ v ∈ E.flat l, v.oneCell' = true := by
  intro v hv
  obtain ⟨x, _, hx⟩ := List.mem_flatMap.1 hv
  exact E.one x v hx
theorem Enc.flat_take (E : Enc α) (l : List α) (m : Nat) : E.flat (l.take m) = (E.flat l).take (m * E.k) := by
  induction l generalizing m with
  | nil => simp [Enc.flat]
  | cons a l ih =>
    cases m with
    | zero => simp [Enc.flat]
    | succ m =>
      rw [List.take_succ_cons, E.flat_cons, E.flat_cons, ih, Nat.add_mul, Nat.one_mul, Nat.add_comm (m * E.k), ← E.len a, List.take_length_add_append]
theorem Enc.flat_drop (E : Enc α) (l : List α) (m : Nat) : E.flat (l.drop m) = (E.flat l).drop (m * E.k) := by
  induction l generalizing m with
  | nil => simp [Enc.flat]
  | cons a l ih =>
    cases m with
    | zero => simp
    | succ m => rw [List.drop_succ_cons, E.flat_cons, ih, Nat.add_mul, Nat.one_mul, Nat.add_comm (m * E.k), ← E.len a, List.drop_length_add_append]
/-- A cell of the i-th element. -/
theorem Enc.flat_at (E : Enc α) (l : List α) (i : Nat) (h : i < l.length) (j : Nat) (hj : j < E.k) : (E.flat l)[i * E.k + j]? = (E.enc l[i])[j]? := by
  have h1 : (E.flat l).drop (i * E.k) = E.enc l[i] ++ E.flat (l.drop (i + 1)) := by
    rw [← E.flat_drop, List.drop_eq_getElem_cons h, E.flat_cons]
  have h2 : ((E.flat l).drop (i * E.k))[j]? = (E.flat l)[i * E.k + j]? := List.getElem?_drop
  rw [← h2, h1, List.getElem?_append_left (by rw [E.len]; exact hj)]
/-- v is a slice that reads as these elements. -/
def At (E : Enc α) (w : World) (v : Value) (xs : List α) : Prop := ∃ a cap, v = .slice a xs.length cap ∧ xs.length ≤ cap ∧ cap ≤ 9223372036854775807 ∧ (a = none → cap = 0) ∧
  ∀ i (h : i < xs.length), ∃ b off, a = some ⟨b, off, none⟩ ∧ b < w.heap.size ∧ ∀ j, j < E.k → w.cell? ⟨b, off + (i * E.k + j), none⟩ = (E.enc xs[i])[j]?
theorem At.below {w w' : World} (h : At E w v xs) {B : Nat} (hB : Below B w w') (hs : ∀ k, v.ownBlock = some k → k < B) : At E w' v xs := by
  obtain ⟨a, cap, rfl, h1, h2, h3, h4⟩ := h
  refine ⟨a, cap, rfl, h1, h2, h3, fun i hi => ?_⟩
  obtain ⟨b, off, rfl, hb, hc⟩ := h4 i hi
  exact ⟨b, off, rfl, Nat.lt_of_lt_of_le hb hB.size, fun j hj => (hB.cell (p := ⟨b, off + (i * E.k + j), none⟩) (hs b rfl)).trans (hc j hj)⟩
theorem At.old {w w' : World} (h : At E w v xs) (hB : Below w.heap.size w w') : At E w' v xs := by
  obtain ⟨a, cap, rfl, h1, h2, h3, h4⟩ := h
  refine ⟨a, cap, rfl, h1, h2, h3, fun i hi => ?_⟩
  obtain ⟨b, off, rfl, hb, hc⟩ := h4 i hi
  exact ⟨b, off, rfl, Nat.lt_of_lt_of_le hb hB.size, fun j hj => (hB.cell (p := ⟨b, off + (i * E.k + j), none⟩) hb).trans (hc j hj)⟩
theorem At.of_block {w w' : World} (h : At E w v xs) (hb : ∀ g, v.ownBlock = some g → w'.heap[g]? = w.heap[g]?) (hs : w.heap.size ≤ w'.heap.size) : At E w' v xs := by
  obtain ⟨a, cap, rfl, h1, h2, h3, h4⟩ := h
  refine ⟨a, cap, rfl, h1, h2, h3, fun i hi => ?_⟩
  obtain ⟨b, off, rfl, hlt, hc⟩ := h4 i hi
  exact ⟨b, off, rfl, by omega, fun j hj => (World.cell?_of_block (a := ⟨b, off + (i * E.k + j), none⟩) (hb b rfl)).trans (hc j hj)⟩
/-- All its cells, in a row. -/
theorem At.cells {ad : Addr} {m c : Nat} (h : At E w (.slice (some ad) m c) xs) : m = xs.length ∧ ∀ j u, (E.flat xs)[j]? = some u → w.cell? (ad.add j) = some u := by
  obtain ⟨a, cap, e, h1, h2, h3, h4⟩ := h
  simp only [Value.slice.injEq] at e
  obtain ⟨rfl, rfl, rfl⟩ := e
  refine ⟨rfl, fun j u hu => ?_⟩
  have hj : j < xs.length * E.k := by
    rw [← E.flat_len]
    exact (List.getElem?_eq_some_iff.1 hu).1
  have hk := E.pos
  have hdiv : j / E.k < xs.length := (Nat.div_lt_iff_lt_mul hk).2 hj
  have hmod : j % E.k < E.k := Nat.mod_lt _ hk
  have hjj : j / E.k * E.k + j % E.k = j := by rw [Nat.mul_comm]; exact Nat.div_add_mod j E.k
  obtain ⟨b, off, e, hb, hc⟩ := h4 (j / E.k) hdiv
  obtain rfl := Option.some.inj e
  have h5 := hc (j % E.k) hmod
  rw [← E.flat_at xs _ hdiv _ hmod, hjj, hu] at h5
  rw [Go.WideShapes.add_plain]
  exact h5
/-- v is a slice of the call's own, from block base on, that reads as these elements. -/
def Own (E : Enc α) (w : World) (base : Nat) (e : TypeId) (v : Value) (xs : List α) : Prop := w.ownsRow base e E.k v xs.length (E.flat xs)
theorem Own.mono (h : Own E w b e v xs) (hb : b' ≤ b) : Own E w b' e v xs := by
  obtain ⟨h1, h2⟩ := h
  refine ⟨h1, ?_⟩
  rcases h2 with h2 | ⟨g, cap, cur, hv, hg, r⟩
  · exact .inl h2
  · exact .inr ⟨g, cap, cur, hv, by omega, r⟩
theorem Own.nil (E : Enc α) (w : World) (b : Nat) (e : TypeId) : Own E w b e (.slice none 0 0) [] := World.ownsRow_nil _ _ _ _
theorem Own.lt (h : Own E w b e v xs) : ∀ k, v.ownBlock = some k → b ≤ k ∧ k < w.heap.size := World.ownsRow.lt h
theorem Own.of_block (h : Own E w b e v xs) (hs : ∀ k, v.ownBlock = some k → w'.heap[k]? = w.heap[k]?) : Own E w' b e v xs := by
  obtain ⟨h1, h2⟩ := h
  refine ⟨h1, ?_⟩
  rcases h2 with h2 | ⟨g, cap, cur, hv, hg, hh, r⟩
  · exact .inl h2
  · exact .inr ⟨g, cap, cur, hv, hg, (hs g (by rw [hv]; rfl)).trans hh, r⟩
theorem Own.alloc (h : Own E w b e v xs) (o : Obj) : Own E (w.alloc o) b e v xs := World.ownsRow.alloc h o
theorem Own.drew (h : Own E w b e v xs) : Own E w.drew b e v xs := h.of_block fun _ _ => rfl
theorem Own.setCell (h : Own E w b e v xs) (a : Addr) (u : Value) (hne : v.ownBlock ≠ some a.block) : Own E (w.setCell a u) b e v xs :=
  h.of_block fun k hk => Below.heap_setCell _ _ _ _ (fun e => hne (by rw [hk, e]))
/-- What an owned slice is, in the walk's words. -/
theorem Own.slice (h : Own E w b e v xs) : ∃ a cap, v = .slice a xs.length cap ∧ xs.length ≤ cap ∧ cap ≤ 9223372036854775807 ∧ (a = none → xs = [] ∧ cap = 0) ∧
    ∀ x, a = some x → ∃ g cur, x = ⟨g, 0, none⟩ ∧ b ≤ g ∧ g < w.heap.size ∧ w.heap[g]? = some (.cells cur e (0, 0)) ∧ cur.size = cap * E.k ∧ cur.toList.take (xs.length * E.k) = E.flat xs := by
  obtain ⟨h1, h2⟩ := h
  rcases h2 with ⟨rfl, h2⟩ | ⟨g, cap, cur, rfl, hg, hh, hn, hm, hs, ht⟩
  · exact ⟨none, 0, by rw [h2], by omega, by decide, fun _ => ⟨List.eq_nil_of_length_eq_zero h2, rfl⟩, by simp⟩
  · refine ⟨some ⟨g, 0, none⟩, cap, rfl, hn, by simpa [maxLen] using hm, by simp, fun x hx => ?_⟩
    obtain rfl := Option.some.inj hx
    exact ⟨g, cur, rfl, hg, (Array.getElem?_eq_some_iff.1 hh).1, hh, hs, ht⟩
theorem Own.at_ (h : Own E w b e v xs) : At E w v xs := by
  have h0 := h
  obtain ⟨a, cap, rfl, h1, h2, h3, h4⟩ := h.slice
  refine ⟨a, cap, rfl, h1, h2, fun e => (h3 e).2, fun i hi => ?_⟩
  cases a with
  | none => rw [(h3 rfl).1] at hi; simp at hi
  | some x =>
    obtain ⟨g, cur, rfl, hg, hlt, _⟩ := h4 x rfl
    refine ⟨g, 0, rfl, hlt, fun j hj => ?_⟩
    have hlen : i * E.k + j < xs.length * E.k := by
      have h5 : (i + 1) * E.k ≤ xs.length * E.k := Nat.mul_le_mul_right _ hi
      rw [Nat.add_mul] at h5; omega
    rw [Nat.zero_add, World.ownsRow.cellAt h0 _ hlen, E.flat_at xs i hi j hj]
/-- The same, where it is not empty. -/
theorem Own.slice1 (h : Own E w b e v xs) (n : Nat) (hn : xs.length = n) (h0 : 0 < n) : ∃ g cap, v = .slice (some ⟨g, 0, none⟩) n cap ∧ n ≤ cap ∧ cap ≤ 9223372036854775807 ∧ b ≤ g ∧ g < w.heap.size ∧
    ∀ i (hi : i < xs.length), ∀ j, j < E.k → w.cell? ⟨g, i * E.k + j, none⟩ = (E.enc xs[i])[j]? := by
  subst hn
  have hat := h.at_
  obtain ⟨a, cap, rfl, h1, h2, h3, h4⟩ := h.slice
  cases a with
  | none => rw [(h3 rfl).1] at h0; simp at h0
  | some x =>
    obtain ⟨g, cur, rfl, h5, h6, _⟩ := h4 x rfl
    refine ⟨g, cap, rfl, h1, h2, h5, h6, fun i hi j hj => ?_⟩
    obtain ⟨a, c, e, _, _, _, hc⟩ := hat
    obtain ⟨b2, o2, e2, hb, hcell⟩ := hc i hi
    simp only [Value.slice.injEq] at e
    rw [← e.1] at e2
    simp only [Option.some.injEq, Addr.mk.injEq, and_true] at e2
    obtain ⟨rfl, rfl⟩ := e2
    have := hcell j hj
    rwa [Nat.zero_add] at this
theorem Own.slice0 (h : Own E w b e v []) : ∃ a cap, v = .slice a 0 cap ∧ cap ≤ 9223372036854775807 := by
  obtain ⟨a, cap, rfl, h1, h2, _⟩ := h.slice
  exact ⟨a, cap, rfl, h2⟩
/-- Cut at its end. -/
theorem Own.cut {A : Option Addr} {n cap : Nat} (h : Own E w b e (.slice A n cap) xs) (m : Nat) (hm : m ≤ xs.length) (hA : A ≠ none) : Own E w b e (.slice A m cap) (xs.take m) := by
  have hl : (xs.take m).length = m := by simp [Nat.min_eq_left hm]
  obtain ⟨h1, h2⟩ := h
  refine ⟨by rw [E.flat_len, hl], ?_⟩
  rcases h2 with ⟨h2, _⟩ | ⟨g, cp, cur, hv, hg, hh, hn, hmx, hs, ht⟩
  · simp only [Value.slice.injEq] at h2; exact absurd h2.1 hA
  · simp only [Value.slice.injEq] at hv
    obtain ⟨rfl, rfl, rfl⟩ := hv
    refine .inr ⟨g, cap, cur, by rw [hl], hg, hh, by rw [hl]; omega, hmx, hs, ?_⟩
    rw [hl, E.flat_take, ← ht, List.take_take, Nat.min_eq_left (Nat.mul_le_mul_right _ hm)]
/-- A fresh block of elements. -/
theorem Own.lit (w : World) (cs : Array Value) (xs : List α) (hb : b ≤ w.heap.size) (hm : xs.length ≤ 9223372036854775807) (hcs : cs.toList = E.flat xs) : Own E (w.alloc (.cells cs e)) b e (.slice (some ⟨w.heap.size, 0, none⟩) xs.length xs.length) xs := by
  have := World.ownsRow_lit (e := e) (size := E.k) w cs xs.length hb (by simpa [maxLen] using hm) (by rw [← Array.length_toList, hcs, E.flat_len])
  rw [hcs] at this
  exact this
/-- The table's row of an element type: its zero, k cells, so many bytes. -/
structure Elem (P : Program) (t e : TypeId) (k : Nat) (nb : Nat) : Prop where
  under : P.underlying t = some (.slice e)
  info : ∃ i z, P.info? e = some i ∧ i.zero = some z ∧ i.size = k ∧ i.bytes = nb ∧ z.cells.size = k
  small : 1 ≤ nb ∧ nb ≤ 256
theorem Elem.of {P : Program} {t e : TypeId} {z : Value} {k nb : Nat} (hu : P.underlying t = some (.slice e)) (hi : (P.info? e).map (fun i => (i.zero, i.size, i.bytes)) = some (some z, k, nb)) (hz : z.cells.size = k) (hs : 1 ≤ nb ∧ nb ≤ 256) : Elem P t e k nb := by
  obtain ⟨i, h1, h2, h3, h4⟩ := info_parts hi
  exact ⟨hu, ⟨i, z, h1, h2, h3, h4, hz⟩, hs⟩
/-- 'append(s, y..)': the new slice lies where the old one lay, or in a new block. -/
theorem run_append_where {P : Program} {t : TypeId} {nb : Nat} (L : Elem P t e E.k nb) (ty : TypeId) (base : Nat) (hown : Own E w base e v xs) (vx : Value) (ys : List α) (hy : At E w vx ys)
    (hlen : xs.length + ys.length < 274877906944) (hbase : base ≤ w.heap.size) :
    ∃ v' w', (Builtin.append_ #[t, t] ty #[v, vx]).run P w = .ok v' w' ∧ Own E w' base e v' (xs ++ ys) ∧ w.grownBy w' v.ownBlock ∧ (v'.ownBlock = v.ownBlock ∨ v'.ownBlock = some w.heap.size) := by
  obtain ⟨i0, z, hi, hz0, hz1, hz2, hzs⟩ := L.info
  have hs1 := L.small
  have hk := E.pos
  obtain ⟨ax, cx, rfl, hc1, hc2, hnil, _⟩ := id hy
  have hb : (xs.length + ys.length) * nb ≤ 140737488355328 := by
    calc (xs.length + ys.length) * nb ≤ (xs.length + ys.length) * 256 := Nat.mul_le_mul_left _ hs1.2
      _ ≤ 140737488355328 := by omega
  cases ax with
  | none =>
    have h00 := hnil rfl
    have h0 : ys = [] := List.eq_nil_of_length_eq_zero (by omega)
    subst h0
    subst h00
    exact ⟨v, w, run_append_owned_none (P := P) w base t ty e i0 E.k L.under hi v xs.length (E.flat xs) hown, by simpa using hown, World.grownBy.refl w _, .inl rfl⟩
  | some ad =>
    obtain ⟨_, hcells⟩ := At.cells hy
    obtain ⟨v', w', hr, h2, h3, h4⟩ := run_append_own (P := P) w base t ty e i0 z E.k nb L.under hi hz0 hz1 hz2 hzs hk v xs.length (E.flat xs) hown ad ys.length cx (E.flat ys) (E.flat_len ys) hcells (E.flat_one ys) (by simp only [maxLen]; omega) hb hbase
    refine ⟨v', w', hr, by rw [Own, E.flat_app, List.length_append]; exact h2, h3, ?_⟩
    have hown' : (E.flat xs).length = xs.length * E.k ∧ _ := hown
    have hfl := E.flat_len ys
    rcases hown'.2 with ⟨rfl, hn⟩ | ⟨g, cap, cur, rfl, hbg, hg, hnc, hcm, hcs, htake⟩
    · by_cases h0 : ys = []
      · subst h0
        have := h4.2 ⟨rfl, rfl⟩
        exact .inl (by rw [this])
      · have hpos : 0 < ys.length := List.length_pos_iff.2 h0
        have hr2 := run_append_nil (P := P) w t ty e i0 z L.under hi hz0 ad ys.length cx (E.flat ys) (by rw [hz1]; exact hfl) hcells hpos (by omega) (by
          rw [hz2]
          calc ys.length * nb ≤ (xs.length + ys.length) * nb := Nat.mul_le_mul_right _ (by omega)
            _ ≤ 281474976710656 := by omega)
        rw [hr] at hr2
        injection hr2 with e1 e2
        subst e1
        exact .inr rfl
    · by_cases hroom : xs.length + ys.length ≤ cap
      · have hr2 := run_append_room (P := P) w t ty e i0 L.under hi g xs.length cap cur hg ad ys.length cx (E.flat ys) (by rw [hz1]; exact hfl) hcells (E.flat_one ys) hroom (by rw [hz1, hcs, hfl, ← Nat.add_mul]; exact Nat.mul_le_mul_right _ hroom)
        rw [hr] at hr2
        injection hr2 with e1 e2
        subst e1
        exact .inl rfl
      · have holds : ∀ j u, (E.flat xs)[j]? = some u → w.cell? ((⟨g, 0, none⟩ : Addr).add j) = some u := World.ownsRow.cells hown (g := g) rfl
        have hr2 := run_append_grow (P := P) w t ty e i0 z L.under hi hz0 ⟨g, 0, none⟩ xs.length cap (E.flat xs) (by rw [hz1]; exact E.flat_len xs) holds ad ys.length cx (E.flat ys) (by rw [hz1]; exact hfl) hcells (by omega) (by omega) (growslice_fits (by omega) (by rw [hz2]; exact hb))
        rw [hr] at hr2
        injection hr2 with e1 e2
        subst e1
        exact .inr rfl
/-- 'append(s, x...)' in the walk. -/
theorem wpList_append {P : Program} {t : TypeId} {nb : Nat} (L : Elem P t e E.k nb) {ops : Array Oper} {rest : List Oper} {o : Oper} {a : Act} {Q : Exit → Act → World → Prop} (hgd : o.guard = none) (s x : Operand)
    (ho : o.op = .call { callee := .builtin .append, args := #[s, x], argTypes := #[t, t] })
    (base : Nat) (v : Value) (hs : a.eval s = v) (hown : Own E w base e v xs) (vx : Value) (ys : List α) (hx : a.eval x = vx) (hy : At E w vx ys)
    (hlen : xs.length + ys.length < 274877906944) (hbase : base ≤ w.heap.size)
    (h : ∀ v' w', Own E w' base e v' (xs ++ ys) → Below base w w' → w.grownBy w' v.ownBlock → (v'.ownBlock = v.ownBlock ∨ v'.ownBlock = some w.heap.size) → wpList P ops Q rest (a.put o.dst v') w') : wpList P ops Q (o :: rest) a w := by
  obtain ⟨v', w', hr, h2, h3, h4⟩ := run_append_where L o.type base hown vx ys hy hlen hbase
  refine wpList_plain hgd fun K hK => ?_
  unfold Oper.wp execOp
  simp only [ho, resolve, invoke, builtin, Sem.run_bind, Sem.run_pure, Result.andThen_ok, List.map_toArray, List.map_cons, List.map_nil, hs, hx, hr]
  exact hK _ _ (h v' w' h2 ((Below.refl _ _).grown h3 hbase (fun k hk => (hown.lt k hk).1)) h3 h4)
/-- 'copy(d, s)' of elements of k cells into a plain block. -/
theorem run_copy_row_k {P : Program} (w : World) (dT sT ty elem : TypeId) (k g o dLen dCap : Nat) (a : Addr) (sLen sCap : Nat) (cur : Array Value) (t : TypeId) (cs : List Value)
    (hu : P.underlying dT = some (.slice elem)) (hs : (P.info? elem).map (·.size) = some k)
    (hg : w.heap[g]? = some (.cells cur t (0, 0))) (hn : cs.length = Nat.min sLen dLen * k)
    (hsrc : ∀ j v, cs[j]? = some v → w.cell? (a.add j) = some v) (hfit : o + cs.length ≤ cur.size) (h1 : ∀ v ∈ cs, v.oneCell' = true) :
    (Builtin.copy_ #[dT, sT] ty #[.slice (some ⟨g, o, none⟩) dLen dCap, .slice (some a) sLen sCap]).run P w =
      .ok (goInt (Nat.min sLen dLen)) (w.setRow g (cur.toList.take o ++ cs ++ cur.toList.drop (o + cs.length)).toArray) := by
  have hl := run_loadCells_list (P := P) w a cs hsrc
  have hst := run_storeCells_at P g o t cs 0 cur w hg (by simpa using hfit) h1
  cases hq : P.info? elem with
  | none => simp [hq] at hs
  | some i =>
    have hi : i.size = k := by simpa [hq] using hs
    simp [Builtin.copy_, run_underlying hu, Builtin.lenOf, Builtin.firstCells, sizeOf, typeInfo, hq, hi, ← hn, hl, hst]
end Go.Proofs.YtooplackonnemaaDoor.RowsK
