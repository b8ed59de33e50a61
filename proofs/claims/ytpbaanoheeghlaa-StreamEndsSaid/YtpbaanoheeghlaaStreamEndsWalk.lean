/-
  The walk of the law StreamEnds: for every kinds, ends and whose it returns true and writes nothing that was there.
  Conditions: none.
-/
import Derived.Test.YtpbaanoheeghlaaArgs
import Derived.Test.YtpbaanoheeghlaaStream
import Derived.Lib.Hide
namespace Go.Proofs.Ytpbaanoheeghlaa.WalkStreamEnds
open Go.RowKit StreamC
set_option linter.unusedVariables false

/-- The pairs of states that the two sides of one stream may be in. -/
def Pair (a b : Int) : Prop := (a = 1 ∧ b = 1) ∨ (a = 2 ∧ b = 3) ∨ (a = 3 ∧ b = 2) ∨ (a = 4 ∧ b = 4)
theorem pair_swap {a b : Int} (h : Pair a b) : Pair b a := by
  unfold Pair at *; omega
theorem pair_step {a b : Int} (h : Pair a b) (k : Int) (e : Bool) (he : e = true → k ≠ 3 ∧ k ≠ 7) (hs : sayB a k e = true) :
    hearC b k e = 0 ∧ hearA b k e = false ∧ Pair (sayN a k e) (hearN b k e) := by
  rcases cases_k k with rfl | rfl | rfl | rfl | hk
  · rcases h with ⟨rfl, rfl⟩ | ⟨rfl, rfl⟩ | ⟨rfl, rfl⟩ | ⟨rfl, rfl⟩ <;> cases e <;> revert hs <;> unfold Pair <;> decide
  · rcases h with ⟨rfl, rfl⟩ | ⟨rfl, rfl⟩ | ⟨rfl, rfl⟩ | ⟨rfl, rfl⟩ <;> cases e <;> revert hs <;> unfold Pair <;> decide
  · rcases h with ⟨rfl, rfl⟩ | ⟨rfl, rfl⟩ | ⟨rfl, rfl⟩ | ⟨rfl, rfl⟩ <;> cases e <;> revert hs he <;> unfold Pair <;> decide
  · rcases h with ⟨rfl, rfl⟩ | ⟨rfl, rfl⟩ | ⟨rfl, rfl⟩ | ⟨rfl, rfl⟩ <;> cases e <;> revert hs he <;> unfold Pair <;> decide
  · rw [sayB, say_kind _ _ _ hk] at hs; simp at hs

set_option maxRecDepth 100000 in
set_option maxHeartbeats 4000000 in
theorem walk (v0 : Value) (ks : List Int) (v1 : Value) (es : List Bool) (v2 : Value) (os : List Bool) (w : World) (h0 : Args.IntsAt w v0 ks) (h1 : Args.BoolsAt w v1 es) (h2 : Args.BoolsAt w v2 os) :
    Calls Try.prog 9 #[v0, v1, v2] w fun e w' => e = .returned (.bool true) ∧ Below w.heap.size w w' := by
  obtain ⟨p0, c0, rfl, hc0, hd0, hel0⟩ := h0.open
  obtain ⟨p1, c1, rfl, hc1, hd1, hel1⟩ := h1.open
  obtain ⟨p2, c2, rfl, hc2, hd2, hel2⟩ := h2.open
  have HEL0 := Lib.hid hel0
  have HEL1 := Lib.hid hel1
  have HEL2 := Lib.hid hel2
  clear hel0 hel1 hel2 h0 h1 h2
  have a1 : hearN 0 1 true = 2 := rfl
  have a2 : hearC 0 1 true = 0 := rfl
  have a3 : hearN 2 0 false = 4 := rfl
  have a4 : hearC 2 0 false = 5 := rfl
  have a5 : hearA 2 0 false = false := rfl
  have a6 : hearA 0 1 true = false := rfl
  go_enter Try.func9, Try.ntmps9
  go_wp2_with (go_at_call 29; refine (hear_any _ _ _ _).mono ?_; simp only [a1, a2, a3, a4, a5, a6]; rintro e w' ⟨rfl, rfl⟩)
  clear a1 a2 a3 a4 a5 a6
  go_loop [13, 14, 15] (fun us them i => ∃ (k : Nat) (a b : Int), i = .int .i64 k ∧ us = .int .i64 a ∧ them = .int .i64 b ∧ k ≤ ks.length ∧ k ≤ es.length ∧ k ≤ os.length ∧ k ≤ 60 ∧ Pair a b) (fun _ _ i => 60 - (intOf i).toNat)
  case atStart => exact ⟨0, 1, 1, rfl, rfl, rfl, by omega, by omega, by omega, by omega, .inl ⟨rfl, rfl⟩⟩
  case round =>
    obtain ⟨k, a, b, rfl, rfl, rfl, hk0, hk1, hk2, hk3, hP⟩ := hrel
    by_cases hin : k < ks.length ∧ k < es.length ∧ k < os.length ∧ k < 60
    · obtain ⟨g0, g1, g2, g3⟩ := hin
      obtain ⟨b0, f0, rfl, hb0, hv0, hi0⟩ := HEL0.out k g0
      obtain ⟨b1, f1, rfl, hb1, hv1⟩ := HEL1.out k g1
      obtain ⟨b2, f2, rfl, hb2, hv2⟩ := HEL2.out k g2
      generalize ks.getD k 0 = kd at *
      generalize es.getD k false = en at *
      generalize os.getD k false = wh at *
      have HP := Lib.hid hP
      have HS := Lib.hid (pair_swap hP)
      clear hP hi0
      have go1 : ∀ (en' : Bool), (en' = true → kd ≠ 3 ∧ kd ≠ 7) → Hid (sayB a kd en' = true → hearC b kd en' = 0 ∧ hearA b kd en' = false ∧ Pair (sayN a kd en') (hearN b kd en')) := fun en' h => pair_step HP.out kd en' h
      have go2 : ∀ (en' : Bool), (en' = true → kd ≠ 3 ∧ kd ≠ 7) → Hid (sayB b kd en' = true → hearC a kd en' = 0 ∧ hearA a kd en' = false ∧ Pair (sayN b kd en') (hearN a kd en')) := fun en' h => pair_step HS.out kd en' h
      have GO1 := Lib.hid go1
      have GO2 := Lib.hid go2
      clear go1 go2
      cases wh
      · cases en
        · have e0 : Hid True := trivial
          go_wp2_with (first | (go_at_call 30; refine (say_any _ _ _ _).mono ?_; rintro e w' (⟨hq, rfl, rfl⟩ | ⟨hq, hz, rfl, rfl⟩)) | (go_at_call 29; obtain ⟨hcc, haa, hpp⟩ := GO2.out false (by simp) hq; refine (hear_any _ _ _ _).mono ?_; rw [hcc, haa]; clear hcc haa hq; rintro e w' ⟨rfl, rfl⟩; generalize sayN b kd false = x at *; generalize hearN a kd false = y at *; rcases hpp with ⟨rfl, rfl⟩ | ⟨rfl, rfl⟩ | ⟨rfl, rfl⟩ | ⟨rfl, rfl⟩))
          all_goals go_round
          all_goals first | (refine ⟨k + 1, _, _, by go_num, rfl, rfl, by omega, by omega, by omega, by omega, ?_⟩; first | (with_reducible exact HP.out) | (unfold Pair; omega)) | (simp [intOf]; omega)
        · by_cases q3 : kd = 3
          · subst q3
            go_wp2_with (first | (go_at_call 30; refine (say_any _ _ _ _).mono ?_; rintro e w' (⟨hq, rfl, rfl⟩ | ⟨hq, hz, rfl, rfl⟩)) | (go_at_call 29; obtain ⟨hcc, haa, hpp⟩ := GO2.out false (by simp) hq; refine (hear_any _ _ _ _).mono ?_; rw [hcc, haa]; clear hcc haa hq; rintro e w' ⟨rfl, rfl⟩; generalize sayN b 3 false = x at *; generalize hearN a 3 false = y at *; rcases hpp with ⟨rfl, rfl⟩ | ⟨rfl, rfl⟩ | ⟨rfl, rfl⟩ | ⟨rfl, rfl⟩))
            all_goals go_round
            all_goals first | (refine ⟨k + 1, _, _, by go_num, rfl, rfl, by omega, by omega, by omega, by omega, ?_⟩; first | (with_reducible exact HP.out) | (unfold Pair; omega)) | (simp [intOf]; omega)
          · by_cases q7 : kd = 7
            · subst q7
              go_wp2_with (first | (go_at_call 30; refine (say_any _ _ _ _).mono ?_; rintro e w' (⟨hq, rfl, rfl⟩ | ⟨hq, hz, rfl, rfl⟩)) | (go_at_call 29; obtain ⟨hcc, haa, hpp⟩ := GO2.out false (by simp) hq; refine (hear_any _ _ _ _).mono ?_; rw [hcc, haa]; clear hcc haa hq; rintro e w' ⟨rfl, rfl⟩; generalize sayN b 7 false = x at *; generalize hearN a 7 false = y at *; rcases hpp with ⟨rfl, rfl⟩ | ⟨rfl, rfl⟩ | ⟨rfl, rfl⟩ | ⟨rfl, rfl⟩))
              all_goals go_round
              all_goals first | (refine ⟨k + 1, _, _, by go_num, rfl, rfl, by omega, by omega, by omega, by omega, ?_⟩; first | (with_reducible exact HP.out) | (unfold Pair; omega)) | (simp [intOf]; omega)
            · have q3' : (kd == 3) = false := by simpa using q3
              have q7' : (kd == 7) = false := by simpa using q7
              have q3'' : (kd != 3) = true := by simpa using q3
              have q7'' : (kd != 7) = true := by simpa using q7
              go_wp2_with (first | (go_at_call 30; refine (say_any _ _ _ _).mono ?_; rintro e w' (⟨hq, rfl, rfl⟩ | ⟨hq, hz, rfl, rfl⟩)) | (go_at_call 29; obtain ⟨hcc, haa, hpp⟩ := GO2.out true (fun _ => ⟨q3, q7⟩) hq; refine (hear_any _ _ _ _).mono ?_; rw [hcc, haa]; clear hcc haa hq; rintro e w' ⟨rfl, rfl⟩; generalize sayN b kd true = x at *; generalize hearN a kd true = y at *; rcases hpp with ⟨rfl, rfl⟩ | ⟨rfl, rfl⟩ | ⟨rfl, rfl⟩ | ⟨rfl, rfl⟩))
              all_goals go_round
              all_goals first | (refine ⟨k + 1, _, _, by go_num, rfl, rfl, by omega, by omega, by omega, by omega, ?_⟩; first | (with_reducible exact HP.out) | (unfold Pair; omega)) | (simp [intOf]; omega)
      · cases en
        · have e0 : Hid True := trivial
          go_wp2_with (first | (go_at_call 30; refine (say_any _ _ _ _).mono ?_; rintro e w' (⟨hq, rfl, rfl⟩ | ⟨hq, hz, rfl, rfl⟩)) | (go_at_call 29; obtain ⟨hcc, haa, hpp⟩ := GO1.out false (by simp) hq; refine (hear_any _ _ _ _).mono ?_; rw [hcc, haa]; clear hcc haa hq; rintro e w' ⟨rfl, rfl⟩; generalize sayN a kd false = x at *; generalize hearN b kd false = y at *; rcases hpp with ⟨rfl, rfl⟩ | ⟨rfl, rfl⟩ | ⟨rfl, rfl⟩ | ⟨rfl, rfl⟩))
          all_goals go_round
          all_goals first | (refine ⟨k + 1, _, _, by go_num, rfl, rfl, by omega, by omega, by omega, by omega, ?_⟩; first | (with_reducible exact HP.out) | (unfold Pair; omega)) | (simp [intOf]; omega)
        · by_cases q3 : kd = 3
          · subst q3
            go_wp2_with (first | (go_at_call 30; refine (say_any _ _ _ _).mono ?_; rintro e w' (⟨hq, rfl, rfl⟩ | ⟨hq, hz, rfl, rfl⟩)) | (go_at_call 29; obtain ⟨hcc, haa, hpp⟩ := GO1.out false (by simp) hq; refine (hear_any _ _ _ _).mono ?_; rw [hcc, haa]; clear hcc haa hq; rintro e w' ⟨rfl, rfl⟩; generalize sayN a 3 false = x at *; generalize hearN b 3 false = y at *; rcases hpp with ⟨rfl, rfl⟩ | ⟨rfl, rfl⟩ | ⟨rfl, rfl⟩ | ⟨rfl, rfl⟩))
            all_goals go_round
            all_goals first | (refine ⟨k + 1, _, _, by go_num, rfl, rfl, by omega, by omega, by omega, by omega, ?_⟩; first | (with_reducible exact HP.out) | (unfold Pair; omega)) | (simp [intOf]; omega)
          · by_cases q7 : kd = 7
            · subst q7
              go_wp2_with (first | (go_at_call 30; refine (say_any _ _ _ _).mono ?_; rintro e w' (⟨hq, rfl, rfl⟩ | ⟨hq, hz, rfl, rfl⟩)) | (go_at_call 29; obtain ⟨hcc, haa, hpp⟩ := GO1.out false (by simp) hq; refine (hear_any _ _ _ _).mono ?_; rw [hcc, haa]; clear hcc haa hq; rintro e w' ⟨rfl, rfl⟩; generalize sayN a 7 false = x at *; generalize hearN b 7 false = y at *; rcases hpp with ⟨rfl, rfl⟩ | ⟨rfl, rfl⟩ | ⟨rfl, rfl⟩ | ⟨rfl, rfl⟩))
              all_goals go_round
              all_goals first | (refine ⟨k + 1, _, _, by go_num, rfl, rfl, by omega, by omega, by omega, by omega, ?_⟩; first | (with_reducible exact HP.out) | (unfold Pair; omega)) | (simp [intOf]; omega)
            · have q3' : (kd == 3) = false := by simpa using q3
              have q7' : (kd == 7) = false := by simpa using q7
              have q3'' : (kd != 3) = true := by simpa using q3
              have q7'' : (kd != 7) = true := by simpa using q7
              go_wp2_with (first | (go_at_call 30; refine (say_any _ _ _ _).mono ?_; rintro e w' (⟨hq, rfl, rfl⟩ | ⟨hq, hz, rfl, rfl⟩)) | (go_at_call 29; obtain ⟨hcc, haa, hpp⟩ := GO1.out true (fun _ => ⟨q3, q7⟩) hq; refine (hear_any _ _ _ _).mono ?_; rw [hcc, haa]; clear hcc haa hq; rintro e w' ⟨rfl, rfl⟩; generalize sayN a kd true = x at *; generalize hearN b kd true = y at *; rcases hpp with ⟨rfl, rfl⟩ | ⟨rfl, rfl⟩ | ⟨rfl, rfl⟩ | ⟨rfl, rfl⟩))
              all_goals go_round
              all_goals first | (refine ⟨k + 1, _, _, by go_num, rfl, rfl, by omega, by omega, by omega, by omega, ?_⟩; first | (with_reducible exact HP.out) | (unfold Pair; omega)) | (simp [intOf]; omega)
    · go_wp2
      all_goals go_ret
      all_goals exact ⟨rfl, Below.refl _ _⟩
end Go.Proofs.Ytpbaanoheeghlaa.WalkStreamEnds
