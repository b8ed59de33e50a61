/-
  Which number stands at a place of sorted ones; the sums of entries that may be wrong: in plain Lean.
  Conditions: none.
-/
import Derived.Test.YtcpkikillmmjcaaGreatDoorLogTopP
import Derived.Test.YtcpkikillmmjcaaGreatDoorLogRank
namespace Go.Proofs.YtcpkikillmmjcaaGreatDoor.LogTopP
open Go LogC LogP IterI
set_option linter.unusedVariables false
set_option linter.unusedSimpArgs false

def lessN (zs : List Int) (x : Int) : Nat := (zs.filter fun z => decide (z < x)).length
def uptoN (zs : List Int) (x : Int) : Nat := (zs.filter fun z => decide (z ≤ x)).length
theorem filt_le {s : List Int} {P : Int → Bool} {q : Nat} (h : ∀ i (hi : i < s.length), q ≤ i → P s[i] = false) : (s.filter P).length ≤ q := by
  have e : s.filter P = (s.take q).filter P ++ (s.drop q).filter P := by rw [← List.filter_append, List.take_append_drop]
  have e2 : (s.drop q).filter P = [] := by
    rw [List.filter_eq_nil_iff]
    intro a ha
    obtain ⟨i, hi, rfl⟩ := List.getElem_of_mem ha
    rw [List.getElem_drop]
    have := h (q + i) (by simp at hi; omega) (by omega)
    simp [this]
  rw [e, e2, List.append_nil]
  have h1 := List.length_filter_le P (s.take q)
  rw [List.length_take] at h1
  omega
theorem filt_ge {s : List Int} {P : Int → Bool} {q : Nat} (hq : q ≤ s.length) (h : ∀ i (hi : i < s.length), i < q → P s[i] = true) : q ≤ (s.filter P).length := by
  have e : s.filter P = (s.take q).filter P ++ (s.drop q).filter P := by rw [← List.filter_append, List.take_append_drop]
  have e2 : (s.take q).filter P = s.take q := by
    rw [List.filter_eq_self]
    intro a ha
    obtain ⟨i, hi, rfl⟩ := List.getElem_of_mem ha
    rw [List.getElem_take]
    simp at hi
    exact h i (by omega) (by omega)
  rw [e, e2, List.length_append, List.length_take]
  omega
theorem sortL_sorted (zs : List Int) : ∀ i j (hi : i < (sortL zs).length) (hj : j < (sortL zs).length), i ≤ j → (sortL zs)[i] ≤ (sortL zs)[j] := by
  have h : (sortL zs).Pairwise fun x y => decide (x ≤ y) = true := by
    unfold sortL
    apply List.pairwise_mergeSort
    · intro a b c h1 h2; simp at *; omega
    · intro a b; simp; omega
  intro i j hi hj hij
  rcases Nat.lt_or_ge i j with h1 | h1
  · exact of_decide_eq_true (List.pairwise_iff_getElem.1 h i j hi hj h1)
  · obtain rfl : i = j := by omega
    exact Int.le_refl _
theorem sortL_perm (zs : List Int) : (sortL zs).Perm zs := by unfold sortL; exact List.mergeSort_perm _ _
theorem lessN_sort (zs : List Int) (x : Int) : lessN (sortL zs) x = lessN zs x := ((sortL_perm zs).filter _).length_eq
theorem uptoN_sort (zs : List Int) (x : Int) : uptoN (sortL zs) x = uptoN zs x := ((sortL_perm zs).filter _).length_eq
theorem rank_place (s : List Int) (hs : ∀ i j (hi : i < s.length) (hj : j < s.length), i ≤ j → s[i] ≤ s[j]) (p : Nat) (h0 : 1 ≤ p) (h1 : p ≤ s.length) (x : Int) : (lessN s x < p ∧ p ≤ uptoN s x) ↔ x = s[p - 1] := by
  constructor
  · rintro ⟨ha, hb⟩
    rcases Int.lt_trichotomy x s[p - 1] with h | h | h
    · exfalso
      have : uptoN s x ≤ p - 1 := filt_le fun i hi hq => by
        have := hs (p - 1) i (by omega) hi hq
        simp; omega
      omega
    · exact h
    · exfalso
      have : p ≤ lessN s x := filt_ge h1 fun i hi hq => by
        have := hs i (p - 1) hi (by omega) (by omega)
        simp; omega
      omega
  · intro h
    refine ⟨?_, filt_ge h1 fun i hi hq => ?_⟩
    · have : lessN s x ≤ p - 1 := filt_le fun i hi hq => by
        have := hs (p - 1) i (by omega) hi hq
        simp; omega
      omega
    · have := hs i (p - 1) hi (by omega) (by omega)
      simp; omega
/-- The place of a part. -/
def placeI (n : Nat) (part : Int) : Int := (n * part + 99) / 100
theorem placeI_bd {n : Nat} {part : Int} (h0 : 0 < n) (h1 : 1 ≤ part) (h2 : part ≤ 100) : 1 ≤ placeI n part ∧ placeI n part ≤ n := by
  unfold placeI
  have e1 : (n : Int) * 1 ≤ n * part := Int.mul_le_mul_of_nonneg_left h1 (by omega)
  have e2 : (n : Int) * part ≤ n * 100 := Int.mul_le_mul_of_nonneg_left h2 (by omega)
  omega
theorem rank_law (zs : List Int) (part : Int) (h0 : 0 < zs.length) (h1 : 1 ≤ part) (h2 : part ≤ 100) :
    rankV zs part ∈ zs ∧ ∀ x, ((lessN zs x : Int) < placeI zs.length part ∧ placeI zs.length part ≤ (uptoN zs x : Int)) ↔ x = rankV zs part := by
  obtain ⟨hb1, hb2⟩ := placeI_bd h0 h1 h2
  obtain ⟨p, hp⟩ : ∃ p : Nat, placeI zs.length part = (p : Int) := ⟨(placeI zs.length part).toNat, by omega⟩
  have hl : (sortL zs).length = zs.length := sortL_len zs
  have hi : rankI zs.length part = p - 1 := by unfold rankI; unfold placeI at hp; omega
  have hlt : p - 1 < (sortL zs).length := by omega
  have hr : rankV zs part = (sortL zs)[p - 1] := by unfold rankV; rw [hi, List.getD_eq_getElem?_getD, List.getElem?_eq_getElem hlt]; rfl
  refine ⟨?_, fun x => ?_⟩
  · rw [hr]; exact (sortL_perm zs).mem_iff.1 (List.getElem_mem hlt)
  · have := rank_place (sortL zs) (sortL_sorted zs) p (by omega) (by omega) x
    rw [lessN_sort, uptoN_sort] at this
    rw [hr, hp, ← this]
    omega
theorem lessN_snoc (zs : List Int) (z x : Int) : lessN (zs ++ [z]) x = lessN zs x + if z < x then 1 else 0 := by
  unfold lessN; rw [List.filter_append]; by_cases h : z < x <;> simp [h]
theorem uptoN_snoc (zs : List Int) (z x : Int) : uptoN (zs ++ [z]) x = uptoN zs x + if z ≤ x then 1 else 0 := by
  unfold uptoN; rw [List.filter_append]; by_cases h : z ≤ x <;> simp [h]
theorem lessN_le (zs : List Int) (x : Int) : lessN zs x ≤ zs.length := List.length_filter_le _ _
theorem uptoN_le (zs : List Int) (x : Int) : uptoN zs x ≤ zs.length := List.length_filter_le _ _

def s1 (l : List En) (f t : Int) : Int := if allE l = 0 then cntS l f t else 0
def s2 (l : List En) (f t : Int) : Int := if allE l = 0 then bytS l f t else 0
def s3 (l : List En) (f t : Int) : Int := if allE l = 0 then badS l f t else 0
theorem sumV_eq (l : List En) (f t : Int) : sumV l f t = .tuple #[.int .i64 (s1 l f t), .int .i64 (s2 l f t), .int .i64 (s3 l f t), errV (allE l)] := by
  unfold sumV s1 s2 s3
  by_cases h : allE l = 0
  · rw [if_pos h, if_pos h, if_pos h, if_pos h, h]; rfl
  · rw [if_neg h, if_neg h, if_neg h, if_neg h]
def rankR (zs : List Int) (part : Int) : Int := if rankE zs.length part = 0 then rankV zs part else 0
theorem rankE_zero {n : Nat} {part : Int} (h : rankE n part = 0) : 1 ≤ part ∧ part ≤ 100 ∧ n ≤ 1000 ∧ 0 < n := by
  unfold rankE at h
  split at h
  · cases h
  · split at h
    · cases h
    · split at h
      · cases h
      · omega
end Go.Proofs.YtcpkikillmmjcaaGreatDoor.LogTopP
