/-
  Contracts of package stream over this seat's translation: message, live, ended, Hear, Say, for every input; and the reference's Hear and Say where the seat has them: both come to the same plain functions.
  Conditions: none.
-/
import Derived.Test.YtegngpingfjedaaGreatDoorProg
import Derived.WalkKit
import Derived.WalkSpells
namespace Go.Proofs.YtegngpingfjedaaGreatDoor.StreamC
open Go.RowKit
set_option linter.unusedSimpArgs false
set_option linter.unusedVariables false

def msgB (k : Int) : Bool := k == 0 || k == 1
def liveB (s : Int) : Bool := s == 1 || (s == 2 || s == 3)
def cut (e : Bool) (a b : Int) : Int := if e then a else b
/-- What becomes of a stream for which a frame comes: the next state, the code, whether for all. -/
def hearF (s k : Int) (e : Bool) : Int × Int × Bool :=
  if s = 0 ∧ k = 1 then (cut e 2 1, 0, false)
  else if s = 1 ∧ (k = 0 ∨ k = 1) then (cut e 2 1, 0, false)
  else if s = 3 ∧ (k = 0 ∨ k = 1) then (cut e 4 3, 0, false)
  else if s = 2 ∧ (k = 0 ∨ k = 1) then (4, 5, false)
  else if s = 4 ∧ (k = 0 ∨ k = 1) then (4, 5, true)
  else if (1 ≤ s ∧ s ≤ 4) ∧ k = 3 then (4, 0, false)
  else if (1 ≤ s ∧ s ≤ 4) ∧ k = 7 then (s, 0, false)
  else (s, 1, true)
/-- What becomes of a stream for which a frame goes out; none: it may not. -/
def sayF (s k : Int) (e : Bool) : Option Int :=
  if s = 1 ∧ (k = 0 ∨ k = 1) then some (cut e 3 1)
  else if s = 2 ∧ (k = 0 ∨ k = 1) then some (cut e 4 2)
  else if (1 ≤ s ∧ s ≤ 4) ∧ k = 3 then some 4
  else if (s = 1 ∨ s = 3) ∧ k = 7 then some s
  else none
def hearN (s k : Int) (e : Bool) : Int := (hearF s k e).1
def hearC (s k : Int) (e : Bool) : Int := (hearF s k e).2.1
def hearA (s k : Int) (e : Bool) : Bool := (hearF s k e).2.2
def sayN (s k : Int) (e : Bool) : Int := (sayF s k e).getD 0
def sayB (s k : Int) (e : Bool) : Bool := (sayF s k e).isSome

theorem cases_s (s : Int) : s = 0 ∨ s = 1 ∨ s = 2 ∨ s = 3 ∨ s = 4 ∨ ((s == 0) = false ∧ (s == 1) = false ∧ (s == 2) = false ∧ (s == 3) = false ∧ (s == 4) = false) := by
  simp only [beq_eq_false_iff_ne]; omega
theorem cases_k (s : Int) : s = 0 ∨ s = 1 ∨ s = 3 ∨ s = 7 ∨ ((s == 0) = false ∧ (s == 1) = false ∧ (s == 3) = false ∧ (s == 7) = false) := by
  simp only [beq_eq_false_iff_ne]; omega
theorem hear_other (s k : Int) (e : Bool) (hs : (s == 0) = false ∧ (s == 1) = false ∧ (s == 2) = false ∧ (s == 3) = false ∧ (s == 4) = false) : hearF s k e = (s, 1, true) := by
  simp only [beq_eq_false_iff_ne] at hs
  unfold hearF
  repeat (rw [if_neg (by omega)])
theorem hear_kind (s k : Int) (e : Bool) (hs : (k == 0) = false ∧ (k == 1) = false ∧ (k == 3) = false ∧ (k == 7) = false) : hearF s k e = (s, 1, true) := by
  simp only [beq_eq_false_iff_ne] at hs
  unfold hearF
  repeat (rw [if_neg (by omega)])
theorem say_other (s k : Int) (e : Bool) (hs : (s == 0) = false ∧ (s == 1) = false ∧ (s == 2) = false ∧ (s == 3) = false ∧ (s == 4) = false) : sayF s k e = none := by
  simp only [beq_eq_false_iff_ne] at hs
  unfold sayF
  repeat (rw [if_neg (by omega)])
theorem say_kind (s k : Int) (e : Bool) (hs : (k == 0) = false ∧ (k == 1) = false ∧ (k == 3) = false ∧ (k == 7) = false) : sayF s k e = none := by
  simp only [beq_eq_false_iff_ne] at hs
  unfold sayF
  repeat (rw [if_neg (by omega)])

theorem message_any (k : Int) (w : World) : Calls Tryz.prog 135 #[.int .i64 k] w fun e w' => e = .returned (.bool (msgB k)) ∧ w = w' := by
  rcases cases_k k with rfl | rfl | rfl | rfl | ⟨h0, h1, h3, h7⟩
  all_goals
    go_enter Tryz.func135, Tryz.ntmps135
    go_wp2
    go_ret
    exact ⟨by simp [msgB, *], rfl⟩
theorem live_any (k : Int) (w : World) : Calls Tryz.prog 96 #[.int .i64 k] w fun e w' => e = .returned (.bool (liveB k)) ∧ w = w' := by
  rcases cases_s k with rfl | rfl | rfl | rfl | rfl | ⟨h0, h1, h2, h3, h4⟩
  all_goals
    go_enter Tryz.func96, Tryz.ntmps96
    go_wp2
    go_ret
    exact ⟨by simp [liveB, *], rfl⟩
theorem ended_any (e : Bool) (a b : Int) (w : World) : Calls Tryz.prog 136 #[.bool e, .int .i64 a, .int .i64 b] w fun r w' => r = .returned (.int .i64 (cut e a b)) ∧ w = w' := by
  cases e
  all_goals
    go_enter Tryz.func136, Tryz.ntmps136
    go_wp2
    go_ret
    exact ⟨rfl, rfl⟩
set_option maxHeartbeats 4000000 in
theorem hear_any (s k : Int) (e : Bool) (w : World) :
    Calls Tryz.prog 124 #[.int .i64 s, .int .i64 k, .bool e] w fun r w' => r = .returned (.tuple #[.int .i64 (hearN s k e), .int .i64 (hearC s k e), .bool (hearA s k e)]) ∧ w = w' := by
  rcases cases_s s with rfl | rfl | rfl | rfl | rfl | hs
  all_goals
    rcases cases_k k with rfl | rfl | rfl | rfl | hk
  all_goals try obtain ⟨s0, s1, s2, s3, s4⟩ := hs
  all_goals try obtain ⟨k0, k1, k3, k7⟩ := hk
  all_goals
    have m1 : msgB 0 = true := rfl
    have m2 : msgB 1 = true := rfl
    have m3 : msgB 3 = false := rfl
    have m4 : msgB 7 = false := rfl
    have m5 : ∀ k, (k == 0) = false → (k == 1) = false → msgB k = false := fun k h0 h1 => by simp [msgB, h0, h1]
    have l0 : liveB 0 = false := rfl
    have l1 : liveB 1 = true := rfl
    have l2 : liveB 2 = true := rfl
    have l3 : liveB 3 = true := rfl
    have l4 : liveB 4 = false := rfl
    have m6 : ∀ k, (k == 0) = false → (k == 1) = false → msgB k = false := fun k h0 h1 => by simp [msgB, h0, h1]
    have l6 : ∀ k, (k == 1) = false → (k == 2) = false → (k == 3) = false → liveB k = false := fun k h0 h1 h2 => by simp [liveB, h0, h1, h2]
    try replace m6 := m6 _ k0 k1
    try replace l6 := l6 _ s1 s2 s3
    go_enter Tryz.func124, Tryz.ntmps124
    go_wp2_with (first | (go_at_call 135; refine (message_any _ _).mono ?_; simp only [m1, m2, m3, m4, m6]; rintro e w' ⟨rfl, rfl⟩) | (go_at_call 96; refine (live_any _ _).mono ?_; simp only [l0, l1, l2, l3, l4, l6]; rintro e w' ⟨rfl, rfl⟩) | (go_at_call 136; refine (ended_any _ _ _ _).mono ?_; rintro e w' ⟨rfl, rfl⟩))
    go_ret3
    refine ⟨?_, rfl⟩
    first
      | rfl
      | (simp only [hearN, hearC, hearA]; rw [hear_other _ _ _ ⟨s0, s1, s2, s3, s4⟩]; rfl)
      | (simp only [hearN, hearC, hearA]; rw [hear_kind _ _ _ ⟨k0, k1, k3, k7⟩]; rfl)
set_option maxHeartbeats 4000000 in
theorem say_any (s k : Int) (e : Bool) (w : World) :
    Calls Tryz.prog 95 #[.int .i64 s, .int .i64 k, .bool e] w fun r w' => (sayB s k e = true ∧ r = .returned (.tuple #[.int .i64 (sayN s k e), .nilIface]) ∧ w = w') ∨
      (sayB s k e = false ∧ sayN s k e = 0 ∧ r = .returned (.tuple #[.int .i64 0, .iface 83 (.int .i64 6)]) ∧ w = w') := by
  rcases cases_s s with rfl | rfl | rfl | rfl | rfl | hs
  all_goals
    rcases cases_k k with rfl | rfl | rfl | rfl | hk
  all_goals try obtain ⟨s0, s1, s2, s3, s4⟩ := hs
  all_goals try obtain ⟨k0, k1, k3, k7⟩ := hk
  all_goals
    have m1 : msgB 0 = true := rfl
    have m2 : msgB 1 = true := rfl
    have m3 : msgB 3 = false := rfl
    have m4 : msgB 7 = false := rfl
    have m5 : ∀ k, (k == 0) = false → (k == 1) = false → msgB k = false := fun k h0 h1 => by simp [msgB, h0, h1]
    have l0 : liveB 0 = false := rfl
    have l1 : liveB 1 = true := rfl
    have l2 : liveB 2 = true := rfl
    have l3 : liveB 3 = true := rfl
    have l4 : liveB 4 = false := rfl
    have m6 : ∀ k, (k == 0) = false → (k == 1) = false → msgB k = false := fun k h0 h1 => by simp [msgB, h0, h1]
    have l6 : ∀ k, (k == 1) = false → (k == 2) = false → (k == 3) = false → liveB k = false := fun k h0 h1 h2 => by simp [liveB, h0, h1, h2]
    try replace m6 := m6 _ k0 k1
    try replace l6 := l6 _ s1 s2 s3
    go_enter Tryz.func95, Tryz.ntmps95
    go_wp2_with (first | (go_at_call 135; refine (message_any _ _).mono ?_; simp only [m1, m2, m3, m4, m6]; rintro e w' ⟨rfl, rfl⟩) | (go_at_call 96; refine (live_any _ _).mono ?_; simp only [l0, l1, l2, l3, l4, l6]; rintro e w' ⟨rfl, rfl⟩) | (go_at_call 136; refine (ended_any _ _ _ _).mono ?_; rintro e w' ⟨rfl, rfl⟩))
    go_ret2
    first
      | (refine .inl ⟨?_, ?_, rfl⟩ <;> rfl)
      | (refine .inr ⟨?_, ?_, rfl, rfl⟩ <;> rfl)
      | (refine .inr ⟨?_, ?_, rfl, rfl⟩ <;> (simp only [sayB, sayN]; rw [say_other _ _ _ ⟨s0, s1, s2, s3, s4⟩]; rfl))
      | (refine .inr ⟨?_, ?_, rfl, rfl⟩ <;> (simp only [sayB, sayN]; rw [say_kind _ _ _ ⟨k0, k1, k3, k7⟩]; rfl))
end Go.Proofs.YtegngpingfjedaaGreatDoor.StreamC
