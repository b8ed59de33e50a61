/-
  Contracts of package flow over this seat's translation: New, Take, Give, Left, Due, for every input.
  Conditions: the pointer leads to one cell that holds an int and is not frozen.
-/
import Derived.Test.YtegngpingfjedaaGreatDoorProg
import Derived.WalkKit
import Derived.WalkSpells
namespace Go.Proofs.YtegngpingfjedaaGreatDoor.Flow
open Go.RowKit
set_option linter.unusedSimpArgs false
set_option linter.unusedVariables false

theorem word_any (n : Int) (w : World) :
    Calls Tryz.prog 129 #[.int .i64 n] w fun e w' => e = .returned (.bool (decide (0 ≤ n ∧ n ≤ 2147483647))) ∧ w = w' := by
  by_cases h1 : 0 ≤ n
  · by_cases h2 : n ≤ 2147483647
    · go_enter Tryz.func129, Tryz.ntmps129
      go_wp2
      go_ret
      exact ⟨by simp [h1, h2], rfl⟩
    · go_enter Tryz.func129, Tryz.ntmps129
      go_wp2
      go_ret
      exact ⟨by simp [h1, h2], rfl⟩
  · go_enter Tryz.func129, Tryz.ntmps129
    go_wp2
    go_ret
    exact ⟨by simp; omega, rfl⟩
theorem new_ok (n : Int) (h1 : 0 ≤ n) (h2 : n ≤ 2147483647) (w : World) :
    Calls Tryz.prog 94 #[.int .i64 n] w fun e w' => e = .returned (.tuple #[.pointer (some ⟨w.heap.size, 0, none⟩), .nilIface]) ∧ w.alloc (.cells #[.int .i64 n] 97) = w' := by
  have g1 : decide (0 ≤ n ∧ n ≤ 2147483647) = true := by simp [h1, h2]
  go_enter Tryz.func94, Tryz.ntmps94
  go_wp2_with (go_at_call 129; refine (word_any _ _).mono ?_; rw [g1]; rintro e w' ⟨rfl, rfl⟩)
  go_ret2
  exact ⟨rfl, rfl⟩
theorem new_bad (n : Int) (h : n < 0 ∨ 2147483647 < n) (w : World) :
    Calls Tryz.prog 94 #[.int .i64 n] w fun e w' => e = .returned (.tuple #[.pointer none, .iface 83 (.int .i64 1)]) ∧ w = w' := by
  have g1 : decide (0 ≤ n ∧ n ≤ 2147483647) = false := by simp; omega
  go_enter Tryz.func94, Tryz.ntmps94
  go_wp2_with (go_at_call 129; refine (word_any _ _).mono ?_; rw [g1]; rintro e w' ⟨rfl, rfl⟩)
  go_ret2
  exact ⟨rfl, rfl⟩
theorem take_any (b : Nat) (left n : Int) (w : World) (hc : w.cell? ⟨b, 0, none⟩ = some (.int .i64 left)) (hf : w.frozen? ⟨b, 0, none⟩ = false)
    (hl : left ≤ 2147483647 ∧ -1099511627776 ≤ left) (hn : n ≤ 9223372036854775807 ∧ -9223372036854775808 ≤ n) :
    Calls Tryz.prog 98 #[.pointer (some ⟨b, 0, none⟩), .int .i64 n] w fun e w' =>
      (n < 0 ∧ e = .returned (.iface 83 (.int .i64 1)) ∧ w = w') ∨ (0 ≤ n ∧ left < n ∧ e = .returned (.iface 83 (.int .i64 9)) ∧ w = w') ∨
      (0 ≤ n ∧ n ≤ left ∧ e = .returned .nilIface ∧ w.setCell ⟨b, 0, none⟩ (.int .i64 (left - n)) = w') := by
  obtain ⟨hl1, hl2⟩ := hl
  obtain ⟨hn1, hn2⟩ := hn
  go_enter Tryz.func98, Tryz.ntmps98
  go_wp2
  · go_ret
    exact .inl ⟨by omega, rfl, rfl⟩
  · go_ret
    exact .inr (.inl ⟨by omega, by omega, rfl, rfl⟩)
  · go_ret
    exact .inr (.inr ⟨by omega, by omega, rfl, rfl⟩)
theorem add_any (b : Nat) (left n : Int) (w : World) (hc : w.cell? ⟨b, 0, none⟩ = some (.int .i64 left)) (hf : w.frozen? ⟨b, 0, none⟩ = false)
    (hl : left ≤ 2147483647 ∧ -1099511627776 ≤ left) (hn : n ≤ 4294967296 ∧ -4294967296 ≤ n) :
    Calls Tryz.prog 130 #[.pointer (some ⟨b, 0, none⟩), .int .i64 n] w fun e w' =>
      (2147483647 - left < n ∧ e = .returned (.iface 83 (.int .i64 10)) ∧ w = w') ∨
      (n ≤ 2147483647 - left ∧ e = .returned .nilIface ∧ w.setCell ⟨b, 0, none⟩ (.int .i64 (left + n)) = w') := by
  obtain ⟨hl1, hl2⟩ := hl
  obtain ⟨hn1, hn2⟩ := hn
  go_enter Tryz.func130, Tryz.ntmps130
  go_wp2
  · go_ret
    exact .inl ⟨by omega, rfl, rfl⟩
  · go_ret
    exact .inr ⟨by omega, rfl, rfl⟩
theorem give_any (b : Nat) (left n : Int) (w : World) (hc : w.cell? ⟨b, 0, none⟩ = some (.int .i64 left)) (hf : w.frozen? ⟨b, 0, none⟩ = false)
    (hl : left ≤ 2147483647 ∧ -1099511627776 ≤ left) :
    Calls Tryz.prog 92 #[.pointer (some ⟨b, 0, none⟩), .int .i64 n] w fun e w' =>
      ((n < 1 ∨ 2147483647 < n) ∧ e = .returned (.iface 83 (.int .i64 1)) ∧ w = w') ∨
      (1 ≤ n ∧ n ≤ 2147483647 ∧ 2147483647 - left < n ∧ e = .returned (.iface 83 (.int .i64 10)) ∧ w = w') ∨
      (1 ≤ n ∧ n ≤ 2147483647 ∧ n ≤ 2147483647 - left ∧ e = .returned .nilIface ∧ w.setCell ⟨b, 0, none⟩ (.int .i64 (left + n)) = w') := by
  by_cases h1 : 0 ≤ n ∧ n ≤ 2147483647
  · have g1 : decide (0 ≤ n ∧ n ≤ 2147483647) = true := by simpa using h1
    obtain ⟨h1, h2⟩ := h1
    by_cases h3 : n = 0
    · subst h3
      go_enter Tryz.func92, Tryz.ntmps92
      go_wp2_with (go_at_call 129; refine (word_any _ _).mono ?_; rw [g1]; rintro e w' ⟨rfl, rfl⟩)
      go_ret
      exact .inl ⟨by omega, rfl, rfl⟩
    · have g3 : (n == 0) = false := by simpa using h3
      go_enter Tryz.func92, Tryz.ntmps92
      go_wp2_with (first | (go_at_call 129; refine (word_any _ _).mono ?_; rw [g1]; rintro e w' ⟨rfl, rfl⟩) | (go_at_call 130; refine (add_any b left n _ hc hf hl (by omega)).mono ?_; rintro e w' (⟨hq, rfl, rfl⟩ | ⟨hq, rfl, rfl⟩)))
      · go_ret
        exact .inr (.inl ⟨by omega, by omega, by omega, rfl, rfl⟩)
      · go_ret
        exact .inr (.inr ⟨by omega, by omega, by omega, rfl, rfl⟩)
  · have g1 : decide (0 ≤ n ∧ n ≤ 2147483647) = false := by simpa using h1
    go_enter Tryz.func92, Tryz.ntmps92
    go_wp2_with (go_at_call 129; refine (word_any _ _).mono ?_; rw [g1]; rintro e w' ⟨rfl, rfl⟩)
    go_ret
    exact .inl ⟨by omega, rfl, rfl⟩
theorem shift_any (b : Nat) (left o n : Int) (w : World) (hc : w.cell? ⟨b, 0, none⟩ = some (.int .i64 left)) (hf : w.frozen? ⟨b, 0, none⟩ = false)
    (hl : left ≤ 2147483647 ∧ -1099511627776 ≤ left) :
    Calls Tryz.prog 127 #[.pointer (some ⟨b, 0, none⟩), .int .i64 o, .int .i64 n] w fun e w' =>
      ((o < 0 ∨ 2147483647 < o ∨ n < 0 ∨ 2147483647 < n) ∧ e = .returned (.iface 83 (.int .i64 1)) ∧ w = w') ∨
      (0 ≤ o ∧ o ≤ 2147483647 ∧ 0 ≤ n ∧ n ≤ 2147483647 ∧ 2147483647 - left < n - o ∧ e = .returned (.iface 83 (.int .i64 10)) ∧ w = w') ∨
      (0 ≤ o ∧ o ≤ 2147483647 ∧ 0 ≤ n ∧ n ≤ 2147483647 ∧ n - o ≤ 2147483647 - left ∧ e = .returned .nilIface ∧ w.setCell ⟨b, 0, none⟩ (.int .i64 (left + (n - o))) = w') := by
  by_cases h1 : 0 ≤ o ∧ o ≤ 2147483647
  · have g1 : decide (0 ≤ o ∧ o ≤ 2147483647) = true := by simpa using h1
    obtain ⟨h1, h2⟩ := h1
    by_cases h3 : 0 ≤ n ∧ n ≤ 2147483647
    · have g3 : decide (0 ≤ n ∧ n ≤ 2147483647) = true := by simpa using h3
      obtain ⟨h3, h4⟩ := h3
      go_enter Tryz.func127, Tryz.ntmps127
      go_wp2_with (first | (go_at_call 129; refine (word_any _ _).mono ?_; simp only [g1, g3]; rintro e w' ⟨rfl, rfl⟩) | (go_at_call 130; refine (add_any b left (n - o) _ hc hf hl (by omega)).mono ?_; rintro e w' (⟨hq, rfl, rfl⟩ | ⟨hq, rfl, rfl⟩)))
      · go_ret
        exact .inr (.inl ⟨by omega, by omega, by omega, by omega, by omega, rfl, rfl⟩)
      · go_ret
        exact .inr (.inr ⟨by omega, by omega, by omega, by omega, by omega, rfl, rfl⟩)
    · have g3 : decide (0 ≤ n ∧ n ≤ 2147483647) = false := by simpa using h3
      go_enter Tryz.func127, Tryz.ntmps127
      go_wp2_with (go_at_call 129; refine (word_any _ _).mono ?_; simp only [g1, g3]; rintro e w' ⟨rfl, rfl⟩)
      go_ret
      exact .inl ⟨by omega, rfl, rfl⟩
  · have g1 : decide (0 ≤ o ∧ o ≤ 2147483647) = false := by simpa using h1
    go_enter Tryz.func127, Tryz.ntmps127
    go_wp2_with (go_at_call 129; refine (word_any _ _).mono ?_; simp only [g1]; rintro e w' ⟨rfl, rfl⟩)
    go_ret
    exact .inl ⟨by omega, rfl, rfl⟩
theorem left_any (b : Nat) (left : Int) (w : World) (hc : w.cell? ⟨b, 0, none⟩ = some (.int .i64 left)) :
    Calls Tryz.prog 91 #[.pointer (some ⟨b, 0, none⟩)] w fun e w' => e = .returned (.int .i64 left) ∧ w = w' := by
  go_enter Tryz.func91, Tryz.ntmps91
  go_wp2
  go_ret
  exact ⟨rfl, rfl⟩
end Go.Proofs.YtegngpingfjedaaGreatDoor.Flow
