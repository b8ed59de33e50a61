/-
  Plain facts on the states of streams as a list of numbers and states: look-up behind a put, how many are live.
  Conditions: none.
-/
import Derived.Test.YtpbaanoheeghlaaStreams
namespace Go.Proofs.Ytpbaanoheeghlaa.StreamsC
open StreamC
set_option linter.unusedSimpArgs false
set_option linter.unusedVariables false
theorem lookS_nil (id : Int) : lookS [] id = none := rfl
theorem lookS_cons (p : Int × Int) (l : List (Int × Int)) (id : Int) : lookS (p :: l) id = if p.1 = id then some p.2 else lookS l id := by
  simp only [lookS, List.find?_cons]
  by_cases h : p.1 = id
  · simp [h]
  · have h2 : (p.1 == id) = false := by simpa using h
    simp only [h2, if_neg h]
theorem lookS_append (l k : List (Int × Int)) (id : Int) : lookS (l ++ k) id = match lookS l id with | some x => some x | none => lookS k id := by
  induction l with
  | nil => rfl
  | cons p l ih => rw [List.cons_append, lookS_cons, lookS_cons, ih]; split <;> rfl
theorem putS_new (l : List (Int × Int)) (id x : Int) (h : lookS l id = none) : putS l id x = l ++ [(id, x)] := by
  induction l with
  | nil => rfl
  | cons p l ih =>
    rw [lookS_cons] at h
    split at h
    · cases h
    · rename_i hne
      have h2 : (p.1 == id) = false := by simpa using hne
      simp [putS, h2, ih h]
theorem lookS_put (l : List (Int × Int)) (id x k : Int) : lookS (putS l id x) k = if id = k then some x else lookS l k := by
  induction l with
  | nil => simp [putS, lookS_cons, lookS_nil]
  | cons p l ih =>
    simp only [putS]
    by_cases h : p.1 = id
    · have h2 : (p.1 == id) = true := by simpa using h
      rw [if_pos h2, lookS_cons, lookS_cons, h]
      split <;> rfl
    · have h2 : ¬ (p.1 == id) = true := by simpa using h
      rw [if_neg h2, lookS_cons, lookS_cons, ih]
      by_cases h3 : id = k
      · subst h3; simp [h]
      · simp [h3]
def one (b : Bool) : Nat := if b then 1 else 0
theorem liveN_cons (p : Int × Int) (l : List (Int × Int)) : liveN (p :: l) = one (liveB p.2) + liveN l := by
  simp only [liveN, List.filter_cons, one]; split <;> simp <;> omega
theorem liveN_append (l k : List (Int × Int)) : liveN (l ++ k) = liveN l + liveN k := by
  simp [liveN, List.filter_append]
theorem liveN_new (l : List (Int × Int)) (id x : Int) (h : lookS l id = none) : liveN (putS l id x) = liveN l + one (liveB x) := by
  rw [putS_new _ _ _ h, liveN_append, liveN_cons]; rfl
theorem liveN_old (l : List (Int × Int)) (id x y : Int) (h : lookS l id = some y) : liveN (putS l id x) + one (liveB y) = liveN l + one (liveB x) := by
  induction l with
  | nil => cases h
  | cons p l ih =>
    rw [lookS_cons] at h
    by_cases hp : p.1 = id
    · rw [if_pos hp] at h
      cases h
      have h2 : (p.1 == id) = true := by simpa using hp
      simp only [putS, h2, if_true, liveN_cons]; omega
    · rw [if_neg hp] at h
      have h2 : ¬ (p.1 == id) = true := by simpa using hp
      simp only [putS, if_neg h2, liveN_cons]
      have := ih h
      omega
theorem putS_len (l : List (Int × Int)) (id x : Int) : (putS l id x).length ≤ l.length + 1 := by
  induction l with
  | nil => simp [putS]
  | cons p l ih => simp only [putS]; split <;> simp <;> omega

/-- As many streams, open, their numbers so far apart. -/
def lad (g : Int) (n : Nat) : List (Int × Int) := (List.range n).map fun j : Nat => (1 + 2 * g * (j : Int), 1)
theorem lad_succ (g : Int) (n : Nat) : lad g (n + 1) = lad g n ++ [(1 + 2 * g * n, 1)] := by simp [lad, List.range_succ]
theorem lad_len (g : Int) (n : Nat) : (lad g n).length = n := by simp [lad]
theorem lad_live (g : Int) (n : Nat) : liveN (lad g n) = n := by
  induction n with
  | zero => rfl
  | succ n ih => rw [lad_succ, liveN_append, ih, liveN_cons]; rfl
theorem lad_look (g : Int) (hg : 1 ≤ g) (n : Nat) (j : Nat) (hj : j < n) : lookS (lad g n) (1 + 2 * g * j) = some 1 := by
  induction n with
  | zero => omega
  | succ n ih =>
    rw [lad_succ, lookS_append]
    by_cases h : j < n
    · rw [ih h]
    · obtain rfl : j = n := by omega
      cases hf : lookS (lad g j) (1 + 2 * g * j) with
      | none => simp [lookS_cons]
      | some x =>
        simp only [lookS, Option.map_eq_some_iff] at hf
        obtain ⟨p, hp, rfl⟩ := hf
        have hm := List.mem_of_find?_eq_some hp
        obtain ⟨i, _, rfl⟩ := List.mem_map.1 hm
        rfl
theorem lad_none (g : Int) (hg : 1 ≤ g) (n : Nat) (id : Int) (h : 1 + 2 * g * n ≤ id) : lookS (lad g n) id = none := by
  simp only [lookS, Option.map_eq_none_iff, List.find?_eq_none]
  intro p hp
  obtain ⟨i, hi, rfl⟩ := List.mem_map.1 hp
  have hi' := List.mem_range.1 hi
  have : 2 * g * (i : Int) < 2 * g * (n : Int) := Int.mul_lt_mul_of_pos_left (by omega) (by omega)
  simp; omega
theorem lad_put (g : Int) (hg : 1 ≤ g) (n : Nat) : putS (lad g n) (1 + 2 * g * n) 1 = lad g (n + 1) := by
  rw [putS_new _ _ _ (lad_none g hg n _ (by omega)), lad_succ]
end Go.Proofs.Ytpbaanoheeghlaa.StreamsC
