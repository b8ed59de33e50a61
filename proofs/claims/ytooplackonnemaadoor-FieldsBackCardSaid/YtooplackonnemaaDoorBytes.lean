/-
  A slice of bytes that a call has made and owns: its reading as a list, kept over other writes; the byte's row of the program's table.
  Conditions: none.
-/
import Derived.Test.YtooplackonnemaaDoorProg
import Derived.WalkKit
import Derived.Laws.AppendOwn
import Derived.Laws.OwnMore
import Derived.Below
namespace Go.Proofs.YtooplackonnemaaDoor.BytesL
open Go.RowKit
set_option linter.unusedVariables false

theorem infoB : (Tryd.prog.info? 5).map (fun i => (i.zero, i.size, i.bytes)) = some (some (.int .u8 0), 1, 1) := by kernel_rfl
def valB (l : List Int) : List Value := l.map (Value.int .u8)
@[simp] theorem valB_len (l : List Int) : (valB l).length = l.length := by simp [valB]
/-- v is a slice of bytes of the call's own (from block base on), which reads as l. -/
def Own (w : World) (base : Nat) (v : Value) (l : List Int) : Prop := w.ownsRow base 5 1 v l.length (valB l)
theorem Own.mono {w : World} {b b' : Nat} {v : Value} {l : List Int} (h : Own w b v l) (hb : b' ≤ b) : Own w b' v l := by
  obtain ⟨h1, h2⟩ := h
  refine ⟨h1, ?_⟩
  rcases h2 with h2 | ⟨g, cap, cur, hv, hg, r⟩
  · exact .inl h2
  · exact .inr ⟨g, cap, cur, hv, by omega, r⟩
theorem Own.setLow {w : World} {base : Nat} {v : Value} {l : List Int} (h : Own w base v l) (p : Addr) (hp : p.block < base) (u : Value) : Own (w.setCell p u) base v l := by
  obtain ⟨h1, h2⟩ := h
  refine ⟨h1, ?_⟩
  rcases h2 with h2 | ⟨g, cap, cur, hv, hg, hh, r⟩
  · exact .inl h2
  · refine .inr ⟨g, cap, cur, hv, hg, ?_, r⟩
    rw [Below.heap_setCell _ _ _ _ (by omega)]; exact hh
theorem Own.nil (w : World) (b : Nat) : Own w b (.slice none 0 0) [] := World.ownsRow_nil _ _ _ _
/-- An owned row's blocks lie below the heap's end; so where only blocks from there on turn it stays. -/
theorem Own.below {w w' : World} {b : Nat} {v : Value} {l : List Int} (h : Own w b v l) (hB : Below w.heap.size w w') : Own w' b v l := by
  obtain ⟨h1, h2⟩ := h
  refine ⟨h1, ?_⟩
  rcases h2 with h2 | ⟨g, cap, cur, hv, hg, hh, r⟩
  · exact .inl h2
  · refine .inr ⟨g, cap, cur, hv, hg, ?_, r⟩
    rw [hB.block g ?_]; exact hh
    rcases Nat.lt_or_ge g w.heap.size with h | h
    · exact h
    · simp [Array.getElem?_eq_none h] at hh
theorem Own.belowOf {w w' : World} {b : Nat} {v : Value} {l : List Int} (h : Own w b v l) {B : Nat} (hB : Below B w w') (hs : ∀ k, v.ownBlock = some k → k < B) : Own w' b v l := by
  obtain ⟨h1, h2⟩ := h
  refine ⟨h1, ?_⟩
  rcases h2 with h2 | ⟨g, cap, cur, hv, hg, hh, r⟩
  · exact .inl h2
  · refine .inr ⟨g, cap, cur, hv, hg, ?_, r⟩
    rw [hB.block g (hs g (by rw [hv]; rfl))]; exact hh
/-- What an owned slice is, in the walk's words. -/
theorem Own.slice {w : World} {b : Nat} {v : Value} {l : List Int} (h : Own w b v l) : ∃ a cap, v = .slice a l.length cap ∧ l.length ≤ cap ∧ cap ≤ maxLen ∧ (a = none → l = []) ∧
    ∀ x, a = some x → ∃ g, x = ⟨g, 0, none⟩ ∧ b ≤ g ∧ g < w.heap.size ∧ ∀ i, i < l.length → w.cell? ⟨g, i, none⟩ = some (.int .u8 (l.getD i 0)) := by
  have h0 := h
  obtain ⟨h1, h2⟩ := h
  rcases h2 with ⟨rfl, h2⟩ | ⟨g, cap, cur, rfl, hg, hh, hn, hm, hs, ht⟩
  · exact ⟨none, 0, by rw [h2], by omega, by decide, fun _ => List.eq_nil_of_length_eq_zero h2, by simp⟩
  · refine ⟨some ⟨g, 0, none⟩, cap, rfl, hn, hm, by simp, fun x hx => ?_⟩
    obtain rfl := Option.some.inj hx
    refine ⟨g, rfl, hg, ?_, fun i hi => ?_⟩
    · rcases Nat.lt_or_ge g w.heap.size with h | h
      · exact h
      · simp [Array.getElem?_eq_none h] at hh
    · rw [World.ownsRow.cellAt h0 i (by omega)]
      simp [valB, List.getElem?_eq_getElem hi]
theorem cell_new1 (w : World) (x : Value) (t : TypeId) : (w.alloc (.cells #[x] t)).cell? ⟨w.heap.size, 0, none⟩ = some x := by simp
theorem le_alloc {w : World} {B : Nat} (o : Obj) (h : B ≤ w.heap.size) : B ≤ (w.alloc o).heap.size := by simp; omega
/-- 'append(b, x)' on a slice of the call's own: one byte more. -/
theorem wpList_append_byte {w : World} {ops : Array Oper} {rest : List Oper} {o : Oper} {a : Act} {Q : Exit → Act → World → Prop} (hgd : o.guard = none) (s x : Operand)
    (ho : o.op = .call { callee := .builtin .append, args := #[s, x], argTypes := #[23, 23] })
    (base : Nat) (v : Value) (l : List Int) (hs : a.eval s = v) (hown : Own w base v l) (g c : Nat) (y : Int)
    (hx : a.eval x = .slice (some ⟨g, 0, none⟩) 1 c) (hy : w.cell? ⟨g, 0, none⟩ = some (.int .u8 y)) (hlen : l.length < 140737488355328) (hbase : base ≤ w.heap.size)
    (h : ∀ v' w', Own w' base v' (l ++ [y]) → Below base w w' → w.grownBy w' v.ownBlock → wpList Tryd.prog ops Q rest (a.put o.dst v') w') : wpList Tryd.prog ops Q (o :: rest) a w := by
  obtain ⟨i0, hi, hz0, hz1, hz2⟩ := info_parts infoB
  refine wpList_append_own w hgd s x 23 ho base 5 i0 (.int .u8 0) 1 1 Tryd.underlying23 hi hz0 hz1 hz2 rfl (by decide) v l.length (valB l) hs hown ⟨g, 0, none⟩ 1 c [.int .u8 y] hx rfl ?_ ?_ (by simp only [maxLen]; omega) (by omega) hbase ?_
  · intro j u hj
    cases j with
    | zero => simp at hj; subst hj; simpa [Addr.add] using hy
    | succ j => simp at hj
  · intro u hu; simp at hu; subst hu; rfl
  · intro v' w' h1 h2 _
    refine h v' w' (by simpa [Own, valB] using h1) ((Below.refl _ _).grown h2 hbase (fun k hk => (hown.lt k hk).1)) h2
theorem Own.form {w : World} {b : Nat} {v : Value} {l : List Int} (h : Own w b v l) (hne : l ≠ []) : ∃ g cap, v = .slice (some ⟨g, 0, none⟩) l.length cap ∧ l.length ≤ cap ∧ cap ≤ maxLen ∧ b ≤ g ∧ g < w.heap.size := by
  obtain ⟨a, cap, rfl, h1, h2, h3, h4⟩ := h.slice
  cases a with
  | none => exact absurd (h3 rfl) hne
  | some x =>
    obtain ⟨g, rfl, hg, hg2, _⟩ := h4 x rfl
    exact ⟨g, cap, rfl, h1, h2, hg, hg2⟩
/-- The same, the new slice written out. -/
theorem wpList_append_byte_sl {w : World} {ops : Array Oper} {rest : List Oper} {o : Oper} {a : Act} {Q : Exit → Act → World → Prop} (hgd : o.guard = none) (s x : Operand)
    (ho : o.op = .call { callee := .builtin .append, args := #[s, x], argTypes := #[23, 23] })
    (base : Nat) (v : Value) (l : List Int) (hs : a.eval s = v) (hown : Own w base v l) (g c : Nat) (y : Int)
    (hx : a.eval x = .slice (some ⟨g, 0, none⟩) 1 c) (hy : w.cell? ⟨g, 0, none⟩ = some (.int .u8 y)) (hlen : l.length < 140737488355328) (hbase : base ≤ w.heap.size)
    (h : ∀ (g' cap : Nat) (w' : World), l.length + 1 ≤ cap → cap ≤ maxLen → base ≤ g' → g' < w'.heap.size → Own w' base (.slice (some ⟨g', 0, none⟩) (l.length + 1) cap) (l ++ [y]) → Below base w w' → w.grownBy w' v.ownBlock →
      wpList Tryd.prog ops Q rest (a.put o.dst (.slice (some ⟨g', 0, none⟩) (l.length + 1) cap)) w') : wpList Tryd.prog ops Q (o :: rest) a w := by
  refine wpList_append_byte hgd s x ho base v l hs hown g c y hx hy hlen hbase ?_
  intro v' w' h1 h2 h3
  obtain ⟨g', cap, hv, h4, h5, h6, h7⟩ := h1.form (by simp)
  rw [hv]
  rw [hv] at h1
  simp only [List.length_append, List.length_cons, List.length_nil, Nat.zero_add] at h1 h4 ⊢
  exact h g' cap w' h4 h5 h6 h7 h1 h2 h3
end Go.Proofs.YtooplackonnemaaDoor.BytesL
