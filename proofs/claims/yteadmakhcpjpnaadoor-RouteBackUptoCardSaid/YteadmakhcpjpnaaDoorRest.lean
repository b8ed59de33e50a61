/-
  Whereto, and the rest of a path: package route's Rest.
  Conditions: the lengths.
-/
import Derived.Test.YteadmakhcpjpnaaDoorFind
namespace Go.Proofs.YteadmakhcpjpnaaDoor.RouteC
open Go.RowKit Go.Shelf RowsK LineC AfterL
set_option linter.unusedVariables false
set_option linter.unusedSimpArgs false

theorem checkUpto_hd {l : List RT} {n : Nat} (h : checkUpto l n = 0) {k : Nat} (hk : k < n) : badR (l.getD k default) = false := by
  have h1 := checkUpto_zero (i := k + 1) (by omega) h
  have h0 := checkUpto_zero (i := k) (by omega) h
  unfold checkUpto at h1
  rw [h0, if_neg (by simp)] at h1
  unfold routeE at h1
  split at h1
  · cases h1
  · rename_i hb; simpa using hb
/-- What is found: a route that is right, and fits. -/
theorem findE_some {l : List RT} {host path : ByteArray} (h : (findE l host path).2 = 0) : ∃ k, k < l.length ∧ (findE l host path).1 = (k : Int) ∧ fitsB (l.getD k default) host path = true ∧ badR (l.getD k default) = false := by
  unfold findE at h ⊢
  by_cases hc : checkE l = 0
  · rw [if_neg (by simp [hc])] at h ⊢
    rcases hb : bestUpto l host path l.length with _ | k
    · rw [hb] at h; cases h
    · obtain ⟨h1, h2⟩ := bestUpto_fits hb
      refine ⟨k, h1, rfl, h2, ?_⟩
      unfold checkE at hc
      split at hc
      · cases hc
      · exact checkUpto_hd hc h1
  · rw [if_pos hc] at h
    exact absurd h hc
theorem findE_bad {l : List RT} {host path : ByteArray} (h : (findE l host path).2 ≠ 0) : (findE l host path).1 = 0 := by
  unfold findE at h ⊢
  split
  · rfl
  · rename_i hc
    rw [if_neg hc] at h
    rcases hb : bestUpto l host path l.length with _ | k
    · rfl
    · rw [hb] at h; exact absurd rfl h
/-- The rest of a path, with a slash ahead. -/
def restF (r : RT) (path : ByteArray) : ByteArray := if Lib.hasPrefix (restB r path).data.toList [47] then restB r path else ⟨#[47]⟩ ++ restB r path
theorem bad_path {r : RT} (h : badR r = false) : ∃ t, r.path.data.toList = 47 :: t := by
  unfold badR at h
  simp only [Bool.or_eq_false_iff, Bool.not_eq_false'] at h
  have hp := h.1.1.2
  unfold Lib.hasPrefix at hp
  rcases hl : r.path.data.toList with _ | ⟨a, t⟩
  · rw [hl] at hp; simp at hp
  · rw [hl] at hp
    simp at hp
    exact ⟨t, by rw [hp]⟩
theorem rest_size {r : RT} {host path : ByteArray} (h : badR r = false) (hf : fitsB r host path = true) : (restB r path).size + 1 ≤ path.size ∧ path.data.toList = r.path.data.toList ++ (restB r path).data.toList := by
  obtain ⟨t, ht⟩ := bad_path h
  unfold fitsB at hf
  simp only [Bool.and_eq_true] at hf
  have hp := hf.1.1
  unfold restB Lib.trimPrefix
  rw [if_pos hp]
  unfold Lib.hasPrefix at hp
  obtain ⟨u, hu⟩ := List.isPrefixOf_iff_prefix.1 hp
  have e : path.data.toList.drop r.path.data.toList.length = u := by rw [← hu]; simp
  rw [e]
  refine ⟨?_, ?_⟩
  · rw [size_list path, size_list, ← hu, ht]
    simp
  · rw [← hu]
end Go.Proofs.YteadmakhcpjpnaaDoor.RouteC
