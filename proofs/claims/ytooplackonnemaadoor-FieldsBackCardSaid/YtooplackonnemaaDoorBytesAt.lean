/-
  A slice that reads as bytes: kept, cut, turned into a text.
  Conditions: none.
-/
import Derived.Test.YtooplackonnemaaDoorArgs
import Derived.Test.YtooplackonnemaaDoorBytes
import Derived.Laws.BytesArg
import Derived.Laws.BytesString
namespace Go.Proofs.YtooplackonnemaaDoor.BA
open Go.RowKit
set_option linter.unusedSimpArgs false
set_option linter.unusedVariables false

/-- A slice that reads as these bytes. -/
def BytesAt (w : World) (v : Value) (l : List Int) : Prop := Args.RowAt w v (BytesL.valB l)
theorem BytesAt.below {w w' : World} {v : Value} {l : List Int} (h : BytesAt w v l) (hB : Below w.heap.size w w') : BytesAt w' v l := Args.RowAt.below h hB
theorem BytesAt.open {w : World} {v : Value} {l : List Int} (h : BytesAt w v l) : ∃ a cap, v = .slice a l.length cap ∧ l.length ≤ cap ∧ cap ≤ 9223372036854775807 ∧ (a = none → cap = 0) ∧
    ∀ i, i < l.length → ∃ b off, a = some ⟨b, off, none⟩ ∧ b < w.heap.size ∧ w.cell? ⟨b, off + i, none⟩ = some (.int .u8 (l.getD i 0)) := by
  obtain ⟨a, cap, h1, h2, h3, h4, h5⟩ := h
  simp only [BytesL.valB_len] at h1 h2 h5
  refine ⟨a, cap, h1, h2, h3, h4, fun i hi => ?_⟩
  obtain ⟨b, off, e, hb, hc⟩ := h5 i hi
  exact ⟨b, off, e, hb, by rw [hc]; simp [BytesL.valB, List.getElem?_eq_getElem hi]⟩
theorem BytesAt.of_own {w : World} {b : Nat} {v : Value} {l : List Int} (h : BytesL.Own w b v l) : BytesAt w v l := by
  obtain ⟨a, cap, rfl, h1, h2, h3, h4⟩ := h.slice
  by_cases hl : l = []
  · subst hl
    cases a with
    | none =>
      obtain ⟨_, h5⟩ := h
      rcases h5 with ⟨e, _⟩ | ⟨g, c2, cur, e, _⟩
      · simp only [Value.slice.injEq] at e
        exact ⟨none, cap, rfl, by simp, by simpa [maxLen] using h2, fun _ => e.2.2, by simp [BytesL.valB]⟩
      · simp at e
    | some x => exact ⟨some x, cap, rfl, by simp, by simpa [maxLen] using h2, by simp, by simp [BytesL.valB]⟩
  · cases a with
    | none => exact absurd (h3 rfl) hl
    | some x =>
      obtain ⟨g, rfl, _, hg, hc⟩ := h4 x rfl
      refine ⟨_, cap, by rw [BytesL.valB_len], by rw [BytesL.valB_len]; exact h1, by simpa [maxLen] using h2, by simp, fun i hi => ⟨g, 0, rfl, hg, ?_⟩⟩
      rw [BytesL.valB_len] at hi
      rw [Nat.zero_add, hc i hi]
      simp [BytesL.valB, List.getElem?_eq_getElem hi]

theorem take_snoc (l : List Int) (k : Nat) (h : k < l.length) : l.take (k + 1) = l.take k ++ [l.getD k 0] := by
  rw [List.take_succ_eq_append_getElem h]; simp [List.getD, h]
theorem getD_bd {l : List Int} (h : ∀ z ∈ l, 0 ≤ z ∧ z ≤ 255) (t : Nat) : 0 ≤ l.getD t 0 ∧ l.getD t 0 ≤ 255 := by
  rw [List.getD_eq_getElem?_getD]
  rcases Nat.lt_or_ge t l.length with hl | hl
  · rw [List.getElem?_eq_getElem hl]; exact h _ (List.getElem_mem hl)
  · rw [List.getElem?_eq_none hl]; decide
theorem bytesAt_drop {w : World} {b off n cap : Nat} {l : List Int} (h : BytesAt w (.slice (some ⟨b, off, none⟩) n cap) l) (k : Nat) (hk : k ≤ l.length) : BytesAt w (.slice (some ⟨b, off + k, none⟩) (n - k) (cap - k)) (l.drop k) := by
  obtain ⟨a, c, e, h1, h2, h3, h4⟩ := h.open
  simp only [Value.slice.injEq] at e
  obtain ⟨rfl, rfl, rfl⟩ := e
  refine ⟨some ⟨b, off + k, none⟩, cap - k, by simp [BytesL.valB], by simp [BytesL.valB]; omega, by omega, by simp, fun i hi => ⟨b, off + k, rfl, ?_, ?_⟩⟩
  · simp [BytesL.valB] at hi
    obtain ⟨b2, o2, e, hb, _⟩ := h4 0 (by omega)
    simp only [Option.some.injEq, Addr.mk.injEq, and_true] at e
    rw [e.1]; exact hb
  · simp only [BytesL.valB, List.length_map, List.length_drop] at hi
    obtain ⟨b2, o2, e, hb, hc⟩ := h4 (k + i) (by omega)
    simp only [Option.some.injEq, Addr.mk.injEq, and_true] at e
    obtain ⟨rfl, rfl⟩ := e
    rw [Nat.add_assoc, hc]
    simp only [BytesL.valB, List.getElem?_map, List.getElem?_drop, List.getElem?_eq_getElem (show k + i < l.length by omega), Option.map_some, List.getD_eq_getElem?_getD, Option.getD_some]
theorem bytesAt_take {w : World} {A : Option Addr} {n cap : Nat} {l : List Int} (h : BytesAt w (.slice A n cap) l) (k : Nat) (hk : k ≤ l.length) : BytesAt w (.slice A k cap) (l.take k) := by
  obtain ⟨a, c, e, h1, h2, h3, h4⟩ := h.open
  simp only [Value.slice.injEq] at e
  obtain ⟨rfl, rfl, rfl⟩ := e
  refine ⟨_, _, by simp [BytesL.valB, Nat.min_eq_left hk], by simp [BytesL.valB]; omega, by omega, h3, fun i hi => ?_⟩
  simp only [BytesL.valB, List.length_map, List.length_take] at hi
  obtain ⟨b2, o2, e, hb, hc⟩ := h4 i (by omega)
  refine ⟨b2, o2, e, hb, ?_⟩
  rw [hc]
  simp only [BytesL.valB, List.getElem?_map, List.getElem?_take, List.getElem?_eq_getElem (show i < l.length by omega), Option.map_some, List.getD_eq_getElem?_getD, Option.getD_some]
  rw [if_pos (by omega)]; rfl
theorem bytesAt_add {w : World} {ad : Addr} {m c : Nat} {l : List Int} (h : BytesAt w (.slice (some ad) m c) l) : m = l.length ∧ ∀ j u, (BytesL.valB l)[j]? = some u → w.cell? (ad.add j) = some u := by
  obtain ⟨a, cap, e, _, _, _, hc⟩ := h.open
  simp only [Value.slice.injEq] at e
  obtain ⟨rfl, rfl, rfl⟩ := e
  refine ⟨rfl, fun j u hu => ?_⟩
  have hj : j < l.length := by
    rcases Nat.lt_or_ge j l.length with h | h
    · exact h
    · rw [List.getElem?_eq_none (by simpa using h)] at hu; cases hu
  obtain ⟨b, off, e, hb, hcell⟩ := hc j hj
  obtain rfl := Option.some.inj e
  have hu' : (BytesL.valB l)[j]? = some (.int .u8 (l.getD j 0)) := by simp [BytesL.valB, List.getElem?_eq_getElem hj]
  rw [hu'] at hu
  obtain rfl := Option.some.inj hu
  rw [Go.WideShapes.add_plain]
  exact hcell
/-- The text that bytes are. -/
def strOf (l : List Int) : ByteArray := ⟨(l.map fun z => UInt8.ofNat z.toNat).toArray⟩
theorem strOf_inj {l r : List Int} (hl : ∀ z ∈ l, 0 ≤ z ∧ z ≤ 255) (hr : ∀ z ∈ r, 0 ≤ z ∧ z ≤ 255) (h : strOf l = strOf r) : l = r := by
  have h1 : l.map (fun z => UInt8.ofNat z.toNat) = r.map (fun z => UInt8.ofNat z.toNat) := by
    have := congrArg (fun b : ByteArray => b.data.toList) h
    simpa [strOf] using this
  clear h
  induction l generalizing r with
  | nil => cases r with
    | nil => rfl
    | cons y r => simp at h1
  | cons x l ih => cases r with
    | nil => simp at h1
    | cons y r =>
      simp only [List.map_cons, List.cons.injEq] at h1
      have hx := hl x (by simp)
      have hy := hr y (by simp)
      have e : x = y := by
        have := congrArg UInt8.toNat h1.1
        rw [UInt8.toNat_ofNat', UInt8.toNat_ofNat'] at this
        omega
      rw [e, ih (fun z hz => hl z (by simp [hz])) (fun z hz => hr z (by simp [hz])) h1.2]
theorem strOf_toList {l r : List Int} (hl : ∀ z ∈ l, 0 ≤ z ∧ z ≤ 255) (hr : ∀ z ∈ r, 0 ≤ z ∧ z ≤ 255) (h : (strOf l).toList = (strOf r).toList) : l = r := by
  rw [ByteArray.toList_eq, ByteArray.toList_eq] at h
  exact strOf_inj hl hr (by cases hl' : strOf l; cases hr' : strOf r; rw [hl', hr'] at h; congr 1; exact Array.toList_inj.1 h)
theorem conv_back {w : World} {v : Value} {l : List Int} (h : BytesAt w v l) (hb : ∀ z ∈ l, 0 ≤ z ∧ z ≤ 255) : (convert 23 9 v).run Tryd.prog w = .ok (.string (strOf l)) w := by
  obtain ⟨a, cap, rfl, _, _, hnil, _⟩ := h.open
  cases a with
  | none =>
    obtain rfl := hnil rfl
    have h0 : l = [] := List.eq_nil_of_length_eq_zero (by have := h.open; obtain ⟨a, c, e, h1, _⟩ := this; simp only [Value.slice.injEq] at e; omega)
    subst h0
    rw [run_convert_bytes_nil (P := Tryd.prog) w 23 5 Tryd.underlying23 Tryd.underlying5 _ _ 9 Tryd.underlying9]
    rfl
  | some x =>
    obtain ⟨_, hc⟩ := bytesAt_add h
    have hl := run_loadCells_list (P := Tryd.prog) w x (BytesL.valB l) hc
    simp only [BytesL.valB_len] at hl
    rw [run_convert_bytes_string w 23 9 5 _ l.length cap Tryd.underlying23 Tryd.underlying5 Tryd.underlying9, run_bytesToString w _ l.length cap l hl, foldl_push_bytes]
    simp [strOf, ByteArray.empty, ByteArray.emptyWithCapacity]
    rfl
end Go.Proofs.YtooplackonnemaaDoor.BA
