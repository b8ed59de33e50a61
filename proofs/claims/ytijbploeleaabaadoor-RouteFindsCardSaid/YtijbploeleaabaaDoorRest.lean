/-
  Whereto, and the rest of a path: package route's Rest.
  Conditions: the lengths.
-/
import Derived.Test.YtijbploeleaabaaDoorFind
namespace Go.Proofs.YtijbploeleaabaaDoor.RouteC
open Go.RowKit Go.Shelf RowsK LineC AfterL
set_option linter.unusedVariables false
set_option linter.unusedSimpArgs false

theorem checkUpto_hd {l : List RT} {n : Nat} (h : checkUpto l n = 0) {k : Nat} (hk : k < n) : badR (l.getD k default) = false := by
  have h1 := checkUpto_zero (i := k + 1) (by omega) h
  have h0 := checkUpto_zero (i := k) (by omega) h
  unfold checkUpto at h1
  rw [h0, if_neg (by simp)] at h1
  unfold routeE at h1
  split at h1
  · cases h1
  · rename_i hb; simpa using hb
/-- What is found: a route that is right, and fits. -/
theorem findE_some {l : List RT} {host path : ByteArray} (h : (findE l host path).2 = 0) : ∃ k, k < l.length ∧ (findE l host path).1 = (k : Int) ∧ fitsB (l.getD k default) host path = true ∧ badR (l.getD k default) = false := by
  unfold findE at h ⊢
  by_cases hc : checkE l = 0
  · rw [if_neg (by simp [hc])] at h ⊢
    rcases hb : bestUpto l host path l.length with _ | k
    · rw [hb] at h; cases h
    · obtain ⟨h1, h2⟩ := bestUpto_fits hb
      refine ⟨k, h1, rfl, h2, ?_⟩
      unfold checkE at hc
      split at hc
      · cases hc
      · exact checkUpto_hd hc h1
  · rw [if_pos hc] at h
    exact absurd h hc
theorem findE_bad {l : List RT} {host path : ByteArray} (h : (findE l host path).2 ≠ 0) : (findE l host path).1 = 0 := by
  unfold findE at h ⊢
  split
  · rfl
  · rename_i hc
    rw [if_neg hc] at h
    rcases hb : bestUpto l host path l.length with _ | k
    · rfl
    · rw [hb] at h; exact absurd rfl h
/-- The rest of a path, with a slash ahead. -/
def restF (r : RT) (path : ByteArray) : ByteArray := if Lib.hasPrefix (restB r path).data.toList [47] then restB r path else ⟨#[47]⟩ ++ restB r path
theorem bad_path {r : RT} (h : badR r = false) : ∃ t, r.path.data.toList = 47 :: t := by
  unfold badR at h
  simp only [Bool.or_eq_false_iff, Bool.not_eq_false'] at h
  have hp := h.1.1.2
  unfold Lib.hasPrefix at hp
  rcases hl : r.path.data.toList with _ | ⟨a, t⟩
  · rw [hl] at hp; simp at hp
  · rw [hl] at hp
    simp at hp
    exact ⟨t, by rw [hp]⟩
theorem rest_size {r : RT} {host path : ByteArray} (h : badR r = false) (hf : fitsB r host path = true) : (restB r path).size + 1 ≤ path.size ∧ path.data.toList = r.path.data.toList ++ (restB r path).data.toList := by
  obtain ⟨t, ht⟩ := bad_path h
  unfold fitsB at hf
  simp only [Bool.and_eq_true] at hf
  have hp := hf.1.1
  unfold restB Lib.trimPrefix
  rw [if_pos hp]
  unfold Lib.hasPrefix at hp
  obtain ⟨u, hu⟩ := List.isPrefixOf_iff_prefix.1 hp
  have e : path.data.toList.drop r.path.data.toList.length = u := by rw [← hu]; simp
  rw [e]
  refine ⟨?_, ?_⟩
  · rw [size_list path, size_list, ← hu, ht]
    simp
  · rw [← hu]
set_option maxRecDepth 100000 in
set_option maxHeartbeats 8000000 in
theorem rest_any (v : Value) (l : List RT) (host path : ByteArray) (w : World) (hl : At encR w v l) (hs : ∀ r ∈ l, r.path.size ≤ maxLen) (hp : path.size ≤ maxLen) :
    Calls Tryd.prog 8 #[v, .string host, .string path] w fun e w' => Below w.heap.size w w' ∧
      (((findE l host path).2 ≠ 0 ∧ e = .returned (.tuple #[.string ⟨#[]⟩, .string ⟨#[]⟩, .iface 48 (.int .i64 (findE l host path).2)])) ∨
       ∃ k, k < l.length ∧ findE l host path = ((k : Int), 0) ∧ fitsB (l.getD k default) host path = true ∧ badR (l.getD k default) = false ∧ e = .returned (.tuple #[.string (l.getD k default).dest, .string (restF (l.getD k default) path), .nilIface])) := by
  have HL := Lib.hid hl
  have HFI := Lib.hid (find_any v l host path w hl hs)
  obtain ⟨a, cap, rfl, hcap, hcap2, _, _⟩ := hl
  by_cases h0 : (findE l host path).2 = 0
  · obtain ⟨k, hk, h1, h2, h3⟩ := findE_some h0
    have HE : Hid (findE l host path = ((k : Int), 0)) := Prod.ext h1 h0
    rw [HE.out] at HFI
    change Hid (Calls Tryd.prog 7 #[.slice a l.length cap, .string host, .string path] w fun e w' => e = .returned (.tuple #[.int .i64 k, .nilIface]) ∧ Below w.heap.size w w') at HFI
    have H23 := Lib.hid (And.intro h2 h3)
    obtain ⟨hq, _⟩ := rest_size h3 h2
    obtain ⟨ab, off, rfl, hab, hc⟩ := At.elem HL.out k hk
    obtain ⟨c0, c1, c2⟩ := hc k hk
    have hrf : restF (l.getD k default) path = if Lib.hasPrefix (restB (l.getD k default) path).data.toList [47] then restB (l.getD k default) path else ⟨#[47]⟩ ++ restB (l.getD k default) path := rfl
    have HT := Lib.hid (fun w => Tryd.strings_TrimPrefix path (l.getD k default).path w)
    change Hid (∀ w, Calls Tryd.prog 20 #[.string path, .string (l.getD k default).path] w fun e w' => e = .returned (.string (restB (l.getD k default) path)) ∧ w' = w) at HT
    have HP := Lib.hid (fun w => Tryd.strings_HasPrefix (restB (l.getD k default) path) ⟨#[47]⟩ w)
    change Hid (∀ w, Calls Tryd.prog 21 #[.string (restB (l.getD k default) path), .string ⟨#[47]⟩] w fun e w' => e = .returned (.bool (Lib.hasPrefix (restB (l.getD k default) path).data.toList [47])) ∧ w' = w) at HP
    have HRF := Lib.hid hrf
    have hk0 : (0 : Int) ≤ (k : Int) := by omega
    have hk1 : (k : Int) < (l.length : Int) := by omega
    have hcat : ¬ 9223372036854775807 < 1 + (restB (l.getD k default) path).size := by unfold maxLen at hp; omega
    clear h0 h1 h2 h3 hc hrf hq
    generalize restB (l.getD k default) path = q at *
    generalize hr : l.getD k default = r at *
    obtain ⟨rh, rp, rt⟩ := r
    simp only at c0 c1 c2 HT
    have HRR := Lib.hid hr
    clear hr
    rcases hb : Lib.hasPrefix q.data.toList [47] with _ | _
    · rw [hb] at HP HRF
      go_enter Tryd.func8, Tryd.ntmps8
      go_wp2_with (first
        | (go_at_call 7; (with_reducible refine HFI.out.mono ?_); rintro e w1 ⟨rfl, hB1⟩; have g0 := (hB1.cell (p := ⟨ab, off + k * 3, none⟩) hab).trans c0; have g1 := (hB1.cell (p := ⟨ab, off + k * 3 + 1, none⟩) hab).trans c1; have g2 := (hB1.cell (p := ⟨ab, off + k * 3 + 2, none⟩) hab).trans c2)
        | (go_at_call 20; (with_reducible refine (HT.out _).mono ?_); rintro e w2 ⟨rfl, rfl⟩)
        | (go_at_call 21; (with_reducible refine (HP.out _).mono ?_); rintro e w2 ⟨rfl, rfl⟩))
      refine bodyPost_ret (results_tmp3 rfl _ _ _) rfl ⟨hB1, .inr ⟨k, hk, HE.out, by rw [HRR.out]; exact H23.out.1, by rw [HRR.out]; exact H23.out.2, ?_⟩⟩
      rw [HRR.out, HRF.out]; rfl
    · rw [hb] at HP HRF
      go_enter Tryd.func8, Tryd.ntmps8
      go_wp2_with (first
        | (go_at_call 7; (with_reducible refine HFI.out.mono ?_); rintro e w1 ⟨rfl, hB1⟩; have g0 := (hB1.cell (p := ⟨ab, off + k * 3, none⟩) hab).trans c0; have g1 := (hB1.cell (p := ⟨ab, off + k * 3 + 1, none⟩) hab).trans c1; have g2 := (hB1.cell (p := ⟨ab, off + k * 3 + 2, none⟩) hab).trans c2)
        | (go_at_call 20; (with_reducible refine (HT.out _).mono ?_); rintro e w2 ⟨rfl, rfl⟩)
        | (go_at_call 21; (with_reducible refine (HP.out _).mono ?_); rintro e w2 ⟨rfl, rfl⟩))
      refine bodyPost_ret (results_tmp3 rfl _ _ _) rfl ⟨hB1, .inr ⟨k, hk, HE.out, by rw [HRR.out]; exact H23.out.1, by rw [HRR.out]; exact H23.out.2, ?_⟩⟩
      rw [HRR.out, HRF.out]; rfl
  · have h1 := findE_bad h0
    have he : errV (findE l host path).2 = .iface 48 (.int .i64 (findE l host path).2) := by unfold errV; rw [if_neg h0]
    rw [he, h1] at HFI
    have H0 := Lib.hid h0
    generalize (findE l host path).2 = k at *
    clear h0 h1 he
    go_enter Tryd.func8, Tryd.ntmps8
    go_wp2_with (go_at_call 7; (with_reducible refine HFI.out.mono ?_); rintro e w1 ⟨rfl, hB1⟩)
    exact bodyPost_ret (results_tmp3 rfl _ _ _) rfl ⟨hB1, .inl ⟨H0.out, rfl⟩⟩
end Go.Proofs.YtijbploeleaabaaDoor.RouteC
