/-
  How often a path stands in entries, the paths in the order of their first coming, and which goes ahead: in plain Lean.
  Conditions: none.
-/
import Derived.Test.YtcpkikillmmjcaaGreatDoorLogS
import Derived.Shelf.SlSortCmp.Whole1
import Derived.Sort.Walk0
namespace Go.Proofs.YtcpkikillmmjcaaGreatDoor.LogTopP
open Go LogC LogP
set_option linter.unusedVariables false
set_option linter.unusedSimpArgs false

/-- How many entries bear the path p. -/
def cnt (l : List En) (p : ByteArray) : Nat := (l.filter fun e => decide (e.path = p)).length
instance memDec (p : ByteArray) (u : List ByteArray) : Decidable (p ∈ u) := decidable_of_iff (u.any (fun x => decide (x = p)) = true) (by simp)
/-- The paths, the first that came first. -/
def uniq (l : List En) : List ByteArray := l.foldl (fun (u : List ByteArray) (e : En) => if e.path ∈ u then u else u ++ [e.path]) []
theorem uniq_snoc (l : List En) (e : En) : uniq (l ++ [e]) = if e.path ∈ uniq l then uniq l else uniq l ++ [e.path] := by
  unfold uniq; rw [List.foldl_append]; rfl
theorem cnt_snoc (l : List En) (e : En) (p : ByteArray) : cnt (l ++ [e]) p = cnt l p + if e.path = p then 1 else 0 := by
  unfold cnt; rw [List.filter_append]; by_cases h : e.path = p <;> simp [h]
theorem cnt_le (l : List En) (p : ByteArray) : cnt l p ≤ l.length := List.length_filter_le _ _
theorem snocInd {α : Type} {P : List α → Prop} (h0 : P []) (h1 : ∀ l x, P l → P (l ++ [x])) (l : List α) : P l := by
  have h : ∀ n (l : List α), l.length = n → P l := by
    intro n
    induction n with
    | zero => intro l hl; rw [List.length_eq_zero_iff.1 hl]; exact h0
    | succ n ih =>
      intro l hl
      have hne : l ≠ [] := by rintro rfl; simp at hl
      rw [← List.dropLast_concat_getLast hne]
      exact h1 _ _ (ih _ (by rw [List.length_dropLast]; omega))
  exact h _ l rfl
theorem mem_uniq (l : List En) (p : ByteArray) : p ∈ uniq l ↔ 0 < cnt l p := by
  induction l using snocInd with
  | h0 => simp [uniq, cnt]
  | h1 l e ih =>
    rw [uniq_snoc, cnt_snoc]
    by_cases h : e.path ∈ uniq l
    · rw [if_pos h]
      by_cases hp : e.path = p
      · subst hp; rw [if_pos rfl]; exact ⟨fun _ => by omega, fun _ => h⟩
      · rw [if_neg hp]; exact ih
    · rw [if_neg h, List.mem_append, List.mem_singleton, ih]
      by_cases hp : e.path = p
      · rw [if_pos hp]; exact ⟨fun _ => by omega, fun _ => .inr hp.symm⟩
      · rw [if_neg hp]; exact ⟨fun h => by rcases h with h | h; omega; exact absurd h.symm hp, fun h => .inl (by omega)⟩
theorem nodup_uniq (l : List En) : (uniq l).Nodup := by
  induction l using snocInd with
  | h0 => simp [uniq]
  | h1 l e ih =>
    rw [uniq_snoc]
    by_cases h : e.path ∈ uniq l
    · rw [if_pos h]; exact ih
    · rw [if_neg h]
      rw [List.nodup_append]
      refine ⟨ih, by simp, ?_⟩
      intro a ha b hb
      rw [List.mem_singleton] at hb
      subst hb
      rintro rfl
      exact h ha
theorem uniq_le (l : List En) : (uniq l).length ≤ l.length := by
  induction l using snocInd with
  | h0 => simp [uniq]
  | h1 l e ih =>
    rw [uniq_snoc]
    by_cases h : e.path ∈ uniq l
    · rw [if_pos h]; simp; omega
    · rw [if_neg h]; simp; omega
/-- The entry at k is the first of its path: so the count behind it is 1. -/
theorem first_iff (l : List En) (e : En) : cnt (l ++ [e]) e.path = 1 ↔ e.path ∉ uniq l := by
  rw [cnt_snoc, if_pos rfl, mem_uniq]; omega

theorem mem_uniq_snoc (l : List En) (e : En) (p : ByteArray) : p ∈ uniq (l ++ [e]) ↔ p ∈ uniq l ∨ e.path = p := by
  rw [mem_uniq, mem_uniq, cnt_snoc]
  by_cases h : e.path = p
  · rw [if_pos h]; exact ⟨fun _ => .inr h, fun _ => by omega⟩
  · rw [if_neg h]; exact ⟨fun h => .inl (by omega), fun k => by rcases k with k | k; omega; exact absurd k h⟩
theorem str_ne {a b : ByteArray} (h : a ≠ b) : (a.toList == b.toList) = false := by
  rw [beq_eq_false_iff_ne, ByteArray.toList_eq, ByteArray.toList_eq]
  exact fun e => h (by cases a; cases b; simp only at e; exact congrArg ByteArray.mk (Array.toList_inj.1 e))
/-- Compare two texts, as Go does. -/
def cmpS (a b : ByteArray) : Int := if Op.bytesLess a.toList b.toList = true then -1 else if Op.bytesLess b.toList a.toList = true then 1 else 0
theorem less_iff (a b : ByteArray) : Op.bytesLess a.toList b.toList = true ↔ a.data.toList < b.data.toList := by
  rw [ByteArray.toList_eq, ByteArray.toList_eq, bytesLess_eq]; exact decide_eq_true_iff
/-- Compare two paths: by how often they stand there, the greater number first, then by themselves. -/
def cfP (l : List En) (a b : ByteArray) : Int := if Lib.compareInt (cnt l b) (cnt l a) ≠ 0 then Lib.compareInt (cnt l b) (cnt l a) else cmpS a b
/-- a goes ahead of b. -/
def Ahead (l : List En) (a b : ByteArray) : Prop := cnt l b < cnt l a ∨ cnt l b = cnt l a ∧ a.data.toList < b.data.toList
theorem lt_iff (l : List En) (a b : ByteArray) : ltOf (cfP l) a b = true ↔ Ahead l a b := by
  unfold ltOf cfP Ahead Lib.compareInt cmpS
  have h1 := less_iff a b
  have h2 := less_iff b a
  by_cases ha : cnt l b < cnt l a
  · simp [ha]
  · by_cases hb : cnt l a < cnt l b
    · simp [hb]; omega
    · have he : cnt l b = cnt l a := by omega
      by_cases hs : Op.bytesLess a.toList b.toList = true
      · simp [he, hs, ← h1]
      · by_cases ht : Op.bytesLess b.toList a.toList = true
        · simp [he, hs, ht, ← h1]
        · simp [he, hs, ht, ← h1]
theorem list_irrefl (x : List UInt8) : ¬ x < x := List.lt_irrefl x
theorem list_trans {x y z : List UInt8} (h : x < y) (k : y < z) : x < z := List.lt_trans h k
theorem list_total {x y : List UInt8} (h : ¬ x < y) (k : ¬ y < x) : x = y := by
  exact List.le_antisymm (List.not_lt.1 k) (List.not_lt.1 h)
theorem ahead_irrefl (l : List En) (a : ByteArray) : ¬ Ahead l a a := by
  rintro (h | ⟨-, h⟩)
  · omega
  · exact list_irrefl _ h
theorem ahead_trans {l : List En} {a b c : ByteArray} (h : Ahead l a b) (k : Ahead l b c) : Ahead l a c := by
  rcases h with h | ⟨h, h'⟩ <;> rcases k with k | ⟨k, k'⟩
  · exact .inl (by omega)
  · exact .inl (by omega)
  · exact .inl (by omega)
  · exact .inr ⟨by omega, list_trans h' k'⟩
theorem ahead_total {l : List En} {a b : ByteArray} (h : ¬ Ahead l a b) (k : ¬ Ahead l b a) : a = b := by
  unfold Ahead at h k
  have he : cnt l b = cnt l a := by omega
  have := list_total (x := a.data.toList) (y := b.data.toList) (fun x => h (.inr ⟨he, x⟩)) (fun x => k (.inr ⟨he.symm, x⟩))
  cases a; cases b
  simp only [ByteArray.mk.injEq]
  exact Array.toList_inj.1 this
theorem swoP (l : List En) : Go.Sort.SWO (ltOf (cfP l)) where
  irrefl x := by
    by_cases h : ltOf (cfP l) x x = true
    · exact absurd ((lt_iff l x x).1 h) (ahead_irrefl l x)
    · simpa using h
  trans x y z h1 h2 := (lt_iff l x z).2 (ahead_trans ((lt_iff l x y).1 h1) ((lt_iff l y z).1 h2))
  ntrans x y z h1 h2 := by
    by_cases h : ltOf (cfP l) x z = true
    · have hx : ¬ Ahead l x y := fun k => by rw [(lt_iff l x y).2 k] at h1; cases h1
      have hy : ¬ Ahead l y z := fun k => by rw [(lt_iff l y z).2 k] at h2; cases h2
      have hxz := (lt_iff l x z).1 h
      exfalso
      by_cases h3 : Ahead l y x
      · exact hy (ahead_trans h3 hxz)
      · have := ahead_total hx h3
        subst this
        exact hy hxz
    · simpa using h

/-- What Top is asked for: the paths, in order, as many as are wanted. -/
structure IsTop (l : List En) (m : Nat) (ps : List ByteArray) : Prop where
  ex : ∃ qs : List ByteArray, qs.Perm (uniq l) ∧ qs.Pairwise (Ahead l) ∧ ps = qs.take m
theorem IsTop.len {l : List En} {m : Nat} {ps : List ByteArray} (h : IsTop l m ps) : ps.length = min (uniq l).length m := by
  obtain ⟨qs, hp, hs, rfl⟩ := h.ex
  rw [List.length_take, hp.length_eq]; omega
theorem IsTop.one {l : List En} {m : Nat} {ps : List ByteArray} (h : IsTop l m ps) (p : ByteArray) (hp : p ∈ ps) : 0 < cnt l p := by
  obtain ⟨qs, hq, hs, rfl⟩ := h.ex
  exact (mem_uniq l p).1 (hq.mem_iff.1 (List.mem_of_mem_take hp))
theorem IsTop.sorted {l : List En} {m : Nat} {ps : List ByteArray} (h : IsTop l m ps) : ps.Pairwise (Ahead l) := by
  obtain ⟨qs, hq, hs, rfl⟩ := h.ex
  exact hs.sublist (List.take_sublist _ _)
/-- None that is left out is ahead of the last. -/
theorem IsTop.last {l : List En} {m : Nat} {ps : List ByteArray} (h : IsTop l m ps) (p : ByteArray) (hp : 0 < cnt l p) (hn : p ∉ ps) (hne : ps ≠ []) : ¬ Ahead l p (ps.getLast hne) := by
  obtain ⟨qs, hq, hs, rfl⟩ := h.ex
  have hm : p ∈ qs := hq.mem_iff.2 ((mem_uniq l p).2 hp)
  rw [← List.take_append_drop m qs] at hm hs
  rcases List.mem_append.1 hm with hm | hm
  · exact absurd hm hn
  · have := (List.pairwise_append.1 hs).2.2 _ (List.getLast_mem hne) _ hm
    intro hk
    exact ahead_irrefl l _ (ahead_trans hk this)
end Go.Proofs.YtcpkikillmmjcaaGreatDoor.LogTopP
