/-
  'append([]byte(s), x...)': bytes onto a text turned into bytes; what it reads as.
  Conditions: the lengths.
-/
import Derived.Test.YtbbhinhledkceaaBytesAt
import Derived.Test.YtbbhinhledkceaaConv
import Derived.ArgAppend
import Derived.Laws.IdiomCopy
import Derived.Lib.ConvBytes
namespace Go.Proofs.Ytbbhinhledkceaa.BA
open Go.RowKit
set_option linter.unusedVariables false
set_option linter.unusedSimpArgs false

/-- A text's bytes as numbers. -/
def intsOf (l : List UInt8) : List Int := l.map fun c => (c.toNat : Int)
theorem intsOf_len (l : List UInt8) : (intsOf l).length = l.length := by simp [intsOf]
theorem intsOf_bd (l : List UInt8) : ∀ z ∈ intsOf l, 0 ≤ z ∧ z ≤ 255 := by
  intro z hz
  unfold intsOf at hz
  obtain ⟨c, _, rfl⟩ := List.mem_map.1 hz
  have := c.toNat_lt
  omega
theorem strOf_ints (l : List UInt8) : strOf (intsOf l) = ⟨l.toArray⟩ := by
  unfold strOf intsOf
  rw [List.map_map]
  congr 2
  conv => rhs; rw [← List.map_id l]
  apply List.map_congr_left
  intro c _
  simp
/-- A text turned into bytes: a row of the call's own, with some room behind. -/
structure Convd (w : World) (base g cap : Nat) (l : List Int) : Prop where
  bg : base ≤ g
  lt : g < w.heap.size
  le : l.length ≤ cap
  mx : cap ≤ 9223372036854775807
  cell : ∀ j, j < l.length → w.cell? ⟨g, j, none⟩ = some (.int .u8 (l.getD j 0))
  room : ∀ j, l.length ≤ j → j < cap → (w.cell? ⟨g, j, none⟩).isSome = true ∧ w.frozen? ⟨g, j, none⟩ = false
theorem Convd.at {w : World} {base g cap : Nat} {l : List Int} (h : Convd w base g cap l) : BytesAt w (.slice (some ⟨g, 0, none⟩) l.length cap) l := by
  refine ⟨some ⟨g, 0, none⟩, cap, by rw [BytesL.valB_len], by rw [BytesL.valB_len]; exact h.le, h.mx, by simp, fun i hi => ⟨g, 0, rfl, h.lt, ?_⟩⟩
  rw [BytesL.valB_len] at hi
  rw [Nat.zero_add, h.cell i hi]
  simp [BytesL.valB, List.getElem?_eq_getElem hi]
theorem Convd.below {w w' : World} {base g cap : Nat} {l : List Int} (h : Convd w base g cap l) (hB : Below w.heap.size w w') : Convd w' base g cap l :=
  ⟨h.bg, Nat.lt_of_lt_of_le h.lt hB.size, h.le, h.mx, fun j hj => (hB.cell (p := ⟨g, j, none⟩) h.lt).trans (h.cell j hj), fun j h1 h2 => by
    rw [hB.cell (p := ⟨g, j, none⟩) h.lt, hB.frozen (p := ⟨g, j, none⟩) h.lt]; exact h.room j h1 h2⟩
theorem convd_new (s : ByteArray) (w : World) (hs : s.size ≤ 140737488355328) : ∃ (cap : Nat) (w1 : World), (convert 9 40 (.string s)).run Try.prog w = .ok (.slice (some ⟨w.heap.size, 0, none⟩) s.size cap) w1 ∧
    Below w.heap.size w w1 ∧ Convd w1 w.heap.size w.heap.size cap (intsOf s.data.toList) := by
  have hsl : s.size = s.data.toList.length := by cases s; simp [ByteArray.size]
  have hcs : (Lib.bytesCells w 5 s).size = grownCap w s.size 0 5 := by
    have := grownCap_ge w s.size 0 5
    unfold Lib.bytesCells
    simp only [Array.size_append, Array.size_map, Array.size_replicate]
    have h2 : s.data.size = s.size := rfl
    omega
  refine ⟨_, _, Lib.run_convert_string_bytes w 9 40 5 s Try.underlying9 Try.underlying40 Try.underlying5, ⟨rfl, rfl, rfl, ?_, ?_⟩, ⟨Nat.le_refl _, ?_, ?_, ?_, fun j hj => ?_, fun j h1 h2 => ⟨?_, ?_⟩⟩⟩
  · rw [Lib.bytesWorld_size]; omega
  · intro k hk; exact Lib.bytesWorld_at_old w 5 s k hk
  · rw [Lib.bytesWorld_size]; omega
  · rw [intsOf_len, ← hsl]; exact grownCap_ge _ _ _ _
  · have := grownCap_le_maxLen w s.size 0 5 (by unfold maxLen; omega)
    unfold maxLen at this; exact this
  · rw [intsOf_len, ← hsl] at hj
    rw [Lib.bytesWorld_cell w 5 s j hj]
    unfold intsOf
    rw [List.getD_eq_getElem?_getD, List.getD_eq_getElem?_getD, List.getElem?_map]
    rw [List.getElem?_eq_getElem (by omega)]
    rfl
  · simp only [World.cell?, Lib.bytesWorld_at_new, Option.bind_some]
    rw [Array.getElem?_eq_getElem (by rw [hcs]; exact h2)]; rfl
  · simp only [World.frozen?, Lib.bytesWorld_at_new, hcs]
    simp only [Bool.and_eq_false_iff, decide_eq_false_iff_not]
    left; omega
theorem below_setCells {B : Nat} {a w : World} (h : Below B a w) {g : Nat} (hg : B ≤ g) : ∀ (vs : List Value) (o : Nat), Below B a (w.setCells g o vs) := by
  intro vs
  induction vs generalizing w with
  | nil => intro o; exact h
  | cons v vs ih => intro o; exact ih (h.setCell (p := ⟨g, o, none⟩) hg v) (o + 1)
set_option maxHeartbeats 1000000 in
/-- 'append(b, x...)' onto such a row. -/
theorem wpList_append_conv {w : World} {ops : Array Oper} {rest : List Oper} {o : Oper} {a : Act} {Q : Exit → Act → World → Prop} (hgd : o.guard = none) (s x : Operand)
    (ho : o.op = .call { callee := .builtin .append, args := #[s, x], argTypes := #[40, 40] })
    (base g n cap : Nat) (l : List Int) (hs : a.eval s = .slice (some ⟨g, 0, none⟩) n cap) (hn : n = l.length) (hown : Convd w base g cap l) (vx : Value) (y : List Int) (hx : a.eval x = vx) (hy : BytesAt w vx y)
    (hlen : l.length + y.length < 140737488355328)
    (h : ∀ v' w', BytesAt w' v' (l ++ y) → Below base w w' → wpList Try.prog ops Q rest (a.put o.dst v') w') : wpList Try.prog ops Q (o :: rest) a w := by
  subst hn
  obtain ⟨i0, hi, hz0, hz1, hz2⟩ := info_parts BytesL.infoB
  obtain ⟨ax, cx, rfl, hc1, hc2, hnil, _⟩ := hy.open
  have hlt := hown.lt
  have hcells : ∀ j u, (BytesL.valB l)[j]? = some u → w.cell? ⟨g, 0 + j, none⟩ = some u := fun j u hu => by
    have hj : j < l.length := by have := (List.getElem?_eq_some_iff.1 hu).1; simpa using this
    rw [Nat.zero_add, hown.cell j hj, ← hu]
    simp [BytesL.valB, List.getElem?_eq_getElem hj]
  cases ax with
  | none =>
    obtain rfl := hnil rfl
    have h0 : y = [] := List.eq_nil_of_length_eq_zero (by omega)
    subst h0
    refine wpList_plain hgd fun K hK => ?_
    have hr : (Builtin.append_ #[40, 40] o.type #[.slice (some ⟨g, 0, none⟩) l.length cap, .slice none 0 0]).run Try.prog w = .ok (.slice (some ⟨g, 0, none⟩) l.length cap) w := by
      have hle := hown.le
      simp [Builtin.append_, run_underlying Try.underlying40, sizeOf, typeInfo, hi, Builtin.lenOf, hle, Builtin.firstCells, storeCells]
    unfold Oper.wp execOp
    simp only [ho, resolve, invoke, builtin, Sem.run_bind, Sem.run_pure, Result.andThen_ok, List.map_toArray, List.map_cons, List.map_nil, hs, hx, List.length_nil, hr]
    exact hK _ _ (h _ _ (by rw [List.append_nil]; exact hown.at) (Below.refl _ _))
  | some ad =>
    obtain ⟨_, hcs⟩ := bytesAt_add hy
    refine wpList_append_arg w hgd s x 40 ho 5 i0 (.int .u8 0) 1 1 Try.underlying40 hi hz0 hz1 hz2 rfl (by decide) g 0 l.length cap (BytesL.valB l) hs (by simp) hcells ad y.length cx (BytesL.valB y) hx (by simp) hcs
      (by intro u hu; obtain ⟨z, _, rfl⟩ := List.mem_map.1 hu; rfl) ?_ (by simp only [maxLen]; omega) (by omega) ?_ ?_
    · intro hroom j hj
      rw [BytesL.valB_len] at hj
      have := hown.room (l.length + j) (by omega) (by omega)
      simpa using this
    · intro hroom
      have hss : ∀ j, j < (BytesL.valB y).length → (w.cell? ⟨g, l.length + j, none⟩).isSome = true := fun j hj => by
        rw [BytesL.valB_len] at hj
        exact (hown.room (l.length + j) (by omega) (by omega)).1
      have hB : Below base w (w.setCells g (0 + l.length * 1) (BytesL.valB y)) := below_setCells (Below.refl _ _) hown.bg _ _
      refine h _ _ ?_ hB
      refine ⟨some ⟨g, 0, none⟩, cap, by rw [BytesL.valB_len, List.length_append], by rw [BytesL.valB_len, List.length_append]; exact hroom, hown.mx, by simp, fun i hi2 => ⟨g, 0, rfl, ?_, ?_⟩⟩
      · exact Nat.lt_of_lt_of_le hlt hB.size
      · rw [BytesL.valB_len, List.length_append] at hi2
        rw [Nat.zero_add, Nat.zero_add, Nat.mul_one]
        by_cases hil : i < l.length
        · rw [World.cell?_setCells_out g (BytesL.valB y) l.length w ⟨g, i, none⟩ (fun _ _ => .inl hil), hown.cell i hil]
          simp [BytesL.valB, List.getElem?_append, hil]
        · obtain ⟨j, rfl⟩ : ∃ j, i = l.length + j := ⟨i - l.length, by omega⟩
          have hj : j < (BytesL.valB y).length := by rw [BytesL.valB_len]; omega
          rw [World.cell?_setCells_in g (BytesL.valB y) l.length w hss j hj]
          simp [BytesL.valB, List.getElem?_append, List.getElem?_eq_getElem (show j < y.length by simpa using hj)]
    · intro hgr v' w' ho' hg'
      refine h v' w' (BytesAt.of_own (b := w.heap.size) ?_) ((Below.refl _ _).grown hg' (by have := hown.bg; omega) (fun k hk => by cases hk))
      simpa [BytesL.Own, BytesL.valB] using ho'
end Go.Proofs.Ytbbhinhledkceaa.BA
