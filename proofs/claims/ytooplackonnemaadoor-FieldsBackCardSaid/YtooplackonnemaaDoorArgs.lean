/-
  What a law's walk is told of its arguments: slices of integers, of bools, slices of slices of integers, as plain lists; and that it still holds where old memory is as it was.
  Conditions: none.
-/
import Derived.Test.YtooplackonnemaaDoorProg
import Derived.WalkKit
import Derived.OpenShut
import Derived.Deep.Matrix
namespace Go.Proofs.YtooplackonnemaaDoor.Args
open Go.RowKit Go.ChangeShapes Go.WideShapes
set_option linter.unusedVariables false
set_option linter.unusedSimpArgs false

def I64 (z : Int) : Prop := -9223372036854775808 ≤ z ∧ z ≤ 9223372036854775807
instance (z : Int) : Decidable (I64 z) := inferInstanceAs (Decidable (_ ∧ _))

/-- v is a slice whose elements, one cell each, are xs. -/
def RowAt (w : World) (v : Value) (xs : List Value) : Prop :=
  ∃ a cap, v = .slice a xs.length cap ∧ xs.length ≤ cap ∧ cap ≤ 9223372036854775807 ∧ (a = none → cap = 0) ∧
    ∀ i, i < xs.length → ∃ b off, a = some ⟨b, off, none⟩ ∧ b < w.heap.size ∧ w.cell? ⟨b, off + i, none⟩ = xs[i]?

/-- v is a []int with these elements. -/
def IntsAt (w : World) (v : Value) (zs : List Int) : Prop := RowAt w v (zs.map (Value.int .i64)) ∧ ∀ z ∈ zs, I64 z

/-- v is a []bool with these elements. -/
def BoolsAt (w : World) (v : Value) (bs : List Bool) : Prop := RowAt w v (bs.map Value.bool)

/-- v is a [][]int. -/
def IntRowsAt (w : World) (v : Value) (rows : List (List Int)) : Prop := ∃ vs, RowAt w v vs ∧ vs.length = rows.length ∧ ∀ (i : Nat) (r : List Int) (x : Value), rows[i]? = some r → vs[i]? = some x → IntsAt w x r

theorem RowAt.below {w w' : World} {v : Value} {xs : List Value} (h : RowAt w v xs) (hB : Below w.heap.size w w') : RowAt w' v xs := by
  obtain ⟨a, cap, h1, h2, h3, h4, h5⟩ := h
  refine ⟨a, cap, h1, h2, h3, h4, fun i hi => ?_⟩
  obtain ⟨b, off, e, hb, hc⟩ := h5 i hi
  exact ⟨b, off, e, Nat.lt_of_lt_of_le hb hB.size, (hB.cell (p := ⟨b, off + i, none⟩) hb).trans hc⟩
theorem IntsAt.below {w w' : World} {v : Value} {xs : List Int} (h : IntsAt w v xs) (hB : Below w.heap.size w w') : IntsAt w' v xs := ⟨h.1.below hB, h.2⟩
theorem IntRowsAt.below {w w' : World} {v : Value} {xs : List (List Int)} (h : IntRowsAt w v xs) (hB : Below w.heap.size w w') : IntRowsAt w' v xs := by
  obtain ⟨vs, h1, h2, h3⟩ := h
  exact ⟨vs, h1.below hB, h2, fun i r x hr hx => (h3 i r x hr hx).below hB⟩

theorem BoolsAt.below {w w' : World} {v : Value} {xs : List Bool} (h : BoolsAt w v xs) (hB : Below w.heap.size w w') : BoolsAt w' v xs := RowAt.below h hB
theorem BoolsAt.open {w : World} {v : Value} {zs : List Bool} (h : BoolsAt w v zs) : ∃ a cap, v = .slice a zs.length cap ∧ zs.length ≤ cap ∧ cap ≤ 9223372036854775807 ∧
    ∀ i, i < zs.length → ∃ b off, a = some ⟨b, off, none⟩ ∧ b < w.heap.size ∧ w.cell? ⟨b, off + i, none⟩ = some (.bool (zs.getD i false)) := by
  obtain ⟨a, cap, h1, h2, h3, h4, h5⟩ := h
  simp only [List.length_map] at h1 h2 h5
  refine ⟨a, cap, h1, h2, h3, fun i hi => ?_⟩
  obtain ⟨b, off, e, hb, hc⟩ := h5 i hi
  exact ⟨b, off, e, hb, by rw [hc]; simp [List.getElem?_eq_getElem hi]⟩

/-- A slice of integers, taken apart: what it is, and each element's cell. -/
theorem IntsAt.open {w : World} {v : Value} {zs : List Int} (h : IntsAt w v zs) : ∃ a cap, v = .slice a zs.length cap ∧ zs.length ≤ cap ∧ cap ≤ 9223372036854775807 ∧
    ∀ i, i < zs.length → ∃ b off, a = some ⟨b, off, none⟩ ∧ b < w.heap.size ∧ w.cell? ⟨b, off + i, none⟩ = some (.int .i64 (zs.getD i 0)) ∧ I64 (zs.getD i 0) := by
  obtain ⟨⟨a, cap, h1, h2, h3, h4, h5⟩, h6⟩ := h
  simp only [List.length_map] at h1 h2 h5
  refine ⟨a, cap, h1, h2, h3, fun i hi => ?_⟩
  obtain ⟨b, off, e, hb, hc⟩ := h5 i hi
  refine ⟨b, off, e, hb, ?_, ?_⟩
  · rw [hc]; simp [List.getElem?_eq_getElem hi]
  · simp only [List.getD_eq_getElem?_getD, List.getElem?_eq_getElem hi, Option.getD_some]; exact h6 _ (List.getElem_mem hi)
theorem IntRowsAt.open {w : World} {v : Value} {rows : List (List Int)} (h : IntRowsAt w v rows) : ∃ a cap, v = .slice a rows.length cap ∧ rows.length ≤ cap ∧ cap ≤ 9223372036854775807 ∧
    ∀ i, i < rows.length → ∃ b off x, a = some ⟨b, off, none⟩ ∧ b < w.heap.size ∧ w.cell? ⟨b, off + i, none⟩ = some x ∧ IntsAt w x (rows.getD i []) := by
  obtain ⟨vs, ⟨a, cap, h1, h2, h3, h4, h5⟩, h6, h7⟩ := h
  rw [h6] at h1 h2 h5
  refine ⟨a, cap, h1, h2, h3, fun i hi => ?_⟩
  obtain ⟨b, off, e, hb, hc⟩ := h5 i hi
  have hv : vs[i]? = some (vs[i]'(by omega)) := List.getElem?_eq_getElem (by omega)
  refine ⟨b, off, _, e, hb, hc.trans hv, ?_⟩
  simp only [List.getD_eq_getElem?_getD, List.getElem?_eq_getElem hi, Option.getD_some]
  exact h7 i _ _ (List.getElem?_eq_getElem hi) hv

section
variable {H : Type} {enc : TypeId × Value → H} {P : Program} {w : World} {base : Nat} {held : Bool}
theorem addr_plain {a : Addr} {v : Value} (h : w.cell? a = some v) : ∃ b off, a = ⟨b, off, none⟩ := by
  obtain ⟨b, off, spot⟩ := a
  have : spot = none := by simpa using World.cell?_spot h
  subst this
  exact ⟨b, off, rfl⟩
theorem rowAt_of_cells {a : Option Addr} {len cap : Nat} {xs : List Value} (hl : len ≤ cap) (hm : cap ≤ maxLen) (hn : a = none → cap = 0) (hx : xs.length = len)
    (hc : ∀ x, a = some x → ∀ i, i < len → w.cell? (x.add i) = xs[i]?) : RowAt w (.slice a len cap) xs := by
  refine ⟨a, cap, by rw [hx], by omega, by simpa [maxLen] using hm, hn, fun i hi => ?_⟩
  cases a with
  | none => have := hn rfl; omega
  | some x =>
    have h0 := hc x rfl 0 (by omega)
    have h1 : xs[0]? = some xs[0] := List.getElem?_eq_getElem (by omega)
    obtain ⟨b, off, spot⟩ := x
    have hspot : spot = none := by simpa [Addr.add] using World.cell?_spot (h0.trans h1)
    subst hspot
    refine ⟨b, off, rfl, by simpa [Addr.add] using block_lt_of_cell (h0.trans h1), ?_⟩
    rw [← Go.WideShapes.add_plain]
    exact hc _ rfl i (by omega)
/-- A []int that came in. -/
theorem ints_of {t e : TypeId} {fuel : Nat} {cs : List Value} {x : DataW H × List MemPlace} (ht : P.underlying t = some (.slice e)) (he : P.underlying e = some (.int .i64)) (hc : P.cellsOf e = 1)
    (h : DataW.trod enc P w base (fun _ => true) held fuel t cs = some x) : ∃ v zs, cs = [v] ∧ IntsAt w v zs := by
  rcases open_ints ht he hc h with ⟨rfl, _⟩ | ⟨a, len, cap, zs, rfl, _, hl, hm, hz, _, hcell, hwz⟩
  · exact ⟨_, [], rfl, ⟨none, 0, rfl, by simp, by simp, by simp, by simp⟩, by simp⟩
  · simp only [if_true] at hz
    refine ⟨_, zs.take len, rfl, rowAt_of_cells hl hm (by simp) (by simp; omega) (fun x hx i hi => ?_), fun z hz' => bounds_i64 (hwz z (List.mem_of_mem_take hz'))⟩
    obtain rfl := Option.some.inj hx
    rw [hcell i (by omega)]
    simp [List.getElem?_take, hi, List.getElem?_eq_getElem (show i < zs.length by omega)]
theorem choose_map {α β : Type} (f : α → β) : ∀ (l : List β), (∀ x ∈ l, ∃ a, x = f a) → ∃ us : List α, l = us.map f
  | [], _ => ⟨[], rfl⟩
  | x :: l, h => by
    obtain ⟨a, rfl⟩ := h x (by simp)
    obtain ⟨us, rfl⟩ := choose_map f l (fun y hy => h y (by simp [hy]))
    exact ⟨a :: us, rfl⟩
/-- A slice that came in, whose elements are of one cell. -/
theorem vals_of {t e : TypeId} {fuel : Nat} {cs : List Value} {x : DataW H × List MemPlace} (ht : P.underlying t = some (.slice e)) (hc : P.cellsOf e = 1)
    (h : DataW.trod enc P w base (fun _ => true) held fuel t cs = some x) : ∃ v vs, cs = [v] ∧ RowAt w v vs ∧ ∀ y ∈ vs, ∃ n d, DataW.trod enc P w base (fun _ => true) held n e [y] = some d := by
  rcases Go.Deep.open_slice1 ht hc h with ⟨rfl, _⟩ | ⟨a, len, cap, m, n, V, D, Pl, rfl, _, hl, hm, hmm, _, hx⟩
  · exact ⟨_, [], rfl, ⟨none, 0, rfl, by simp, by simp, by simp, by simp⟩, by simp⟩
  · simp only [if_true] at hmm
    subst hmm
    refine ⟨_, (List.range len).map V, rfl, rowAt_of_cells hl hm (by simp) (by simp) (fun x hx' i hi => ?_), fun y hy => ?_⟩
    · obtain rfl := Option.some.inj hx'
      rw [(hx i (by omega)).1]
      simp [List.getElem?_range hi]
    · obtain ⟨i, hi, rfl⟩ := List.mem_map.1 hy
      exact ⟨n, _, (hx i (by have := List.mem_range.1 hi; omega)).2⟩
/-- A []bool that came in. -/
theorem bools_of {t e : TypeId} {fuel : Nat} {cs : List Value} {x : DataW H × List MemPlace} (ht : P.underlying t = some (.slice e)) (he : P.underlying e = some .bool) (hc : P.cellsOf e = 1)
    (h : DataW.trod enc P w base (fun _ => true) held fuel t cs = some x) : ∃ v bs, cs = [v] ∧ BoolsAt w v bs := by
  obtain ⟨v, vs, h1, h2, h3⟩ := vals_of ht hc h
  obtain ⟨bs, rfl⟩ := choose_map Value.bool vs (fun y hy => by
    obtain ⟨n, d, hd⟩ := h3 y hy
    obtain ⟨b, hb, _⟩ := DataW.trod_bool he hd
    exact ⟨b, by simpa using hb⟩)
  exact ⟨v, bs, h1, h2⟩
/-- A [][]int that came in. -/
theorem introws_of {t e q : TypeId} {fuel : Nat} {cs : List Value} {x : DataW H × List MemPlace} (ht : P.underlying t = some (.slice e)) (he : P.underlying e = some (.slice q)) (hq : P.underlying q = some (.int .i64))
    (ce : P.cellsOf e = 1) (cq : P.cellsOf q = 1) (h : DataW.trod enc P w base (fun _ => true) held fuel t cs = some x) : ∃ v rows, cs = [v] ∧ IntRowsAt w v rows := by
  rcases Go.Deep.open_int_rows ht he hq ce cq h with ⟨rfl, _⟩ | ⟨a, len, cap, A, L, C, Z, rfl, _, hl, hm, _, hr⟩
  · exact ⟨_, [], rfl, [], ⟨none, 0, rfl, by simp, by simp, by simp, by simp⟩, rfl, by simp⟩
  · refine ⟨_, (List.range len).map fun r => (Z r).take (L r), rfl, (List.range len).map fun r => .slice (A r) (L r) (C r), rowAt_of_cells hl hm (by simp) (by simp) (fun x hx i hi => ?_), by simp, fun i r x h1 h2 => ?_⟩
    · obtain rfl := Option.some.inj hx
      rw [(hr i (by omega)).1]
      simp [List.getElem?_range hi]
    · have hi : i < len := by
        rcases Nat.lt_or_ge i len with h | h
        · exact h
        · simp [List.getElem?_eq_none (show ((List.range len).map fun r => Value.slice (A r) (L r) (C r)).length ≤ i by simpa using h)] at h2
      simp only [List.getElem?_map, List.getElem?_range hi, Option.map_some, Option.some.injEq] at h1 h2
      subst h1; subst h2
      obtain ⟨_, k1, k2, k3, k4, k5, k6⟩ := hr i (by omega)
      refine ⟨rowAt_of_cells k1 k2 k5 (by simp; omega) (fun x hx j hj => ?_), fun z hz' => bounds_i64 (k4 z (List.mem_of_mem_take hz'))⟩
      rw [(k6 x hx).2 j (by omega)]
      simp [List.getElem?_take, hj, List.getElem?_eq_getElem (show j < (Z i).length by omega)]
end
/-- What lies below stays readable: cells and marks. -/
theorem bcell {W w1 : World} {B : Nat} (hb : Below B W w1) : (∀ b o, b < B → w1.cell? ⟨b, o, none⟩ = W.cell? ⟨b, o, none⟩) ∧ (∀ b o, b < B → w1.frozen? ⟨b, o, none⟩ = W.frozen? ⟨b, o, none⟩) :=
  ⟨fun b o h => hb.cell (p := ⟨b, o, none⟩) h, fun b o h => hb.frozen (p := ⟨b, o, none⟩) h⟩
/-- The row of three that a law copies a step into: place t while j places are copied. -/
def cp (r : List Int) (j t : Nat) : Int := if t < j then r.getD t 0 else 0
theorem cp_zero (r : List Int) (t : Nat) : cp r 0 t = 0 := by simp [cp]
theorem cp_full (r : List Int) (j t : Nat) (h : j = r.length ∨ t < j) : cp r j t = r.getD t 0 := by
  unfold cp
  split
  · rfl
  · rcases h with h | h
    · rw [List.getD_eq_getElem?_getD, List.getElem?_eq_none (by omega)]; rfl
    · omega
theorem cp_step (r : List Int) (j t : Nat) : cp r (j + 1) t = if t = j then r.getD j 0 else cp r j t := by
  unfold cp
  by_cases h : t = j
  · subst h; simp
  · simp only [h, if_false]
    by_cases h2 : t < j
    · rw [if_pos (by omega), if_pos h2]
    · rw [if_neg (by omega), if_neg h2]
theorem getD_i64 {l : List Int} (h : ∀ z ∈ l, I64 z) (t : Nat) : I64 (l.getD t 0) := by
  rw [List.getD_eq_getElem?_getD]
  rcases Nat.lt_or_ge t l.length with hl | hl
  · rw [List.getElem?_eq_getElem hl]; exact h _ (List.getElem_mem hl)
  · rw [List.getElem?_eq_none hl]; decide
end Go.Proofs.YtooplackonnemaaDoor.Args
