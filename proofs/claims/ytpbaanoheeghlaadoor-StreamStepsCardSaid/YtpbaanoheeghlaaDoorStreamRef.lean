/-
  Contracts of the reference's Hear and Say over this seat's translation: they come to the same plain functions as the program's.
  Conditions: none.
-/
import Derived.Test.YtpbaanoheeghlaaDoorStream
namespace Go.Proofs.YtpbaanoheeghlaaDoor.StreamC
open Go.RowKit
set_option linter.unusedSimpArgs false
set_option linter.unusedVariables false

set_option maxHeartbeats 4000000 in
theorem shear_any (s k : Int) (e : Bool) (w : World) :
    Calls Tryd.prog 11 #[.int .i64 s, .int .i64 k, .bool e] w fun r w' => r = .returned (.tuple #[.int .i64 (hearN s k e), .int .i64 (hearC s k e), .bool (hearA s k e)]) ∧ w = w' := by
  rcases cases_s s with rfl | rfl | rfl | rfl | rfl | hs
  all_goals
    rcases cases_k k with rfl | rfl | rfl | rfl | hk
  all_goals try have hs' : s < 0 ∨ 4 < s := by simp only [beq_eq_false_iff_ne] at hs; omega
  all_goals try obtain ⟨s0, s1, s2, s3, s4⟩ := hs
  all_goals try obtain ⟨k0, k1, k3, k7⟩ := hk
  all_goals try rcases hs' with hs' | hs'
  all_goals
    cases e
  all_goals
    go_enter Tryd.func11, Tryd.ntmps11
    go_wp2
    go_ret3
    refine ⟨?_, rfl⟩
    first
      | rfl
      | (simp only [hearN, hearC, hearA]; rw [hear_other _ _ _ ⟨s0, s1, s2, s3, s4⟩]; rfl)
      | (simp only [hearN, hearC, hearA]; rw [hear_kind _ _ _ ⟨k0, k1, k3, k7⟩]; rfl)
/-- The fault of a frame that may not go out. -/
def sayE (s k : Int) (e : Bool) : Int := if sayB s k e then 0 else 6
theorem sayE_of (s k : Int) (e : Bool) (h : sayF s k e = none) : sayN s k e = 0 ∧ sayE s k e = 6 := by simp [sayE, sayB, sayN, h]
set_option maxHeartbeats 4000000 in
theorem ssay_any (s k : Int) (e : Bool) (w : World) :
    Calls Tryd.prog 13 #[.int .i64 s, .int .i64 k, .bool e] w fun r w' => r = .returned (.tuple #[.int .i64 (sayN s k e), .int .i64 (sayE s k e)]) ∧ w = w' := by
  rcases cases_s s with rfl | rfl | rfl | rfl | rfl | hs
  all_goals
    rcases cases_k k with rfl | rfl | rfl | rfl | hk
  all_goals try have hs' : s < 0 ∨ 4 < s := by simp only [beq_eq_false_iff_ne] at hs; omega
  all_goals try obtain ⟨s0, s1, s2, s3, s4⟩ := hs
  all_goals try obtain ⟨k0, k1, k3, k7⟩ := hk
  all_goals try rcases hs' with hs' | hs'
  all_goals
    cases e
  all_goals
    go_enter Tryd.func13, Tryd.ntmps13
    go_wp2
    go_ret2
    refine ⟨?_, rfl⟩
    first
      | rfl
      | (have hk' := fun k e => say_other _ k e ⟨s0, s1, s2, s3, s4⟩; simp [sayN, sayE, sayB, hk'])
      | (have hk' := fun s e => say_kind s _ e ⟨k0, k1, k3, k7⟩; simp [sayN, sayE, sayB, hk'])
end Go.Proofs.YtpbaanoheeghlaaDoor.StreamC
