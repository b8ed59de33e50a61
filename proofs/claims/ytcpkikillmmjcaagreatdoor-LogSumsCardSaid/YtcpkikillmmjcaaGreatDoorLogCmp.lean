/-
  cmp.Compare at int and at string, cmp.Or of two ints, over this seat's translation, exactly.
  Conditions: for Or: the slice's two cells.
-/
import Derived.Test.YtcpkikillmmjcaaGreatDoorLogTopP
import Derived.IntWalk
import Derived.Laws.Cover1
import Derived.Deep.CutRange
namespace Go.Proofs.YtcpkikillmmjcaaGreatDoor.LogC
open Go.RowKit LogP LineC RowsK Args LogTopP
set_option linter.unusedVariables false
set_option linter.unusedSimpArgs false

theorem nanI_any (x : Int) (w : World) : Calls Tryz.prog 53 #[.int .i64 x] w fun e w' => e = .returned (.bool false) ∧ w = w' := by
  go_enter Tryz.func53, Tryz.ntmps53
  go_wp2_with fail
  go_ret
  exact ⟨by simp, rfl⟩
theorem nanS_any (x : ByteArray) (w : World) : Calls Tryz.prog 54 #[.string x] w fun e w' => e = .returned (.bool false) ∧ w = w' := by
  go_enter Tryz.func54, Tryz.ntmps54
  go_wp2_with fail
  go_ret
  exact ⟨by simp, rfl⟩
theorem compI_any (x y : Int) (w : World) : Calls Tryz.prog 34 #[.int .i64 x, .int .i64 y] w fun e w' => e = .returned (.int .i64 (Lib.compareInt x y)) ∧ w = w' := by
  have HN := Lib.hid nanI_any
  obtain ⟨r, hr⟩ : ∃ r, Lib.compareInt x y = r := ⟨_, rfl⟩
  by_cases h1 : x < y
  · have HR : Hid (r = -1) := by show _ = _; rw [← hr]; unfold Lib.compareInt; simp [h1]
    rw [hr]; clear hr
    have d1 : decide (x < y) = true := by simpa using h1
    go_enter Tryz.func34, Tryz.ntmps34
    go_wp2_with (first | (go_at_call 53; (with_reducible refine (HN.out _ _).mono ?_); rintro e w1 ⟨rfl, rfl⟩) | fail)
    go_ret
    exact ⟨by rw [HR.out]; rfl, rfl⟩
  · by_cases h2 : y < x
    · have HR : Hid (r = 1) := by show _ = _; rw [← hr]; unfold Lib.compareInt; simp [h1, h2]
      rw [hr]; clear hr
      have d1 : decide (x < y) = false := by simpa using h1
      have d2 : decide (y < x) = true := by simpa using h2
      go_enter Tryz.func34, Tryz.ntmps34
      go_wp2_with (first | (go_at_call 53; (with_reducible refine (HN.out _ _).mono ?_); rintro e w1 ⟨rfl, rfl⟩) | fail)
      go_ret
      exact ⟨by rw [HR.out]; rfl, rfl⟩
    · have HR : Hid (r = 0) := by show _ = _; rw [← hr]; unfold Lib.compareInt; simp [h1, h2]
      rw [hr]; clear hr
      have d1 : decide (x < y) = false := by simpa using h1
      have d2 : decide (y < x) = false := by simpa using h2
      go_enter Tryz.func34, Tryz.ntmps34
      go_wp2_with (first | (go_at_call 53; (with_reducible refine (HN.out _ _).mono ?_); rintro e w1 ⟨rfl, rfl⟩) | fail)
      go_ret
      exact ⟨by rw [HR.out]; rfl, rfl⟩
theorem compS_any (x y : ByteArray) (w : World) : Calls Tryz.prog 35 #[.string x, .string y] w fun e w' => e = .returned (.int .i64 (cmpS x y)) ∧ w = w' := by
  have HN := Lib.hid nanS_any
  obtain ⟨r, hr⟩ : ∃ r, cmpS x y = r := ⟨_, rfl⟩
  unfold cmpS at hr
  have hg : (!(Op.bytesLess x.toList y.toList || x.toList == y.toList)) = if Op.bytesLess x.toList y.toList = true then false else if Op.bytesLess y.toList x.toList = true then true else false := by
    have a := bytesLess_eq x.toList y.toList
    have b := bytesLess_eq y.toList x.toList
    by_cases c1 : x.toList < y.toList
    · simp [a, c1]
    · by_cases c2 : y.toList < x.toList
      · have c3 : x.toList ≠ y.toList := by intro e; rw [e] at c2; exact list_irrefl _ c2
        simp [a, b, c1, c2, c3]
      · have c3 : x.toList = y.toList := list_total c1 c2
        simp [a, b, c3, list_irrefl]
  rw [show cmpS x y = r from hr]
  by_cases h1 : Op.bytesLess x.toList y.toList = true
  · have HR : Hid (r = -1) := by show _ = _; rw [← hr, if_pos h1]
    clear hr hg
    go_enter Tryz.func35, Tryz.ntmps35
    go_wp2_with (first | (go_at_call 54; (with_reducible refine (HN.out _ _).mono ?_); rintro e w1 ⟨rfl, rfl⟩) | fail)
    go_ret
    exact ⟨by rw [HR.out]; rfl, rfl⟩
  · have h1' : Op.bytesLess x.toList y.toList = false := by simpa using h1
    rw [if_neg h1] at hr hg
    clear h1
    by_cases h2 : Op.bytesLess y.toList x.toList = true
    · have HR : Hid (r = 1) := by show _ = _; rw [← hr, if_pos h2]
      rw [if_pos h2] at hg
      clear hr h2
      have hg2 : (Op.bytesLess x.toList y.toList || x.toList == y.toList) = false := by
        cases hb : (Op.bytesLess x.toList y.toList || x.toList == y.toList) with
        | false => rfl
        | true => rw [hb] at hg; cases hg
      have hg3 : (x.toList == y.toList) = false := by rw [h1', Bool.false_or] at hg2; exact hg2
      clear hg hg2
      go_enter Tryz.func35, Tryz.ntmps35
      go_wp2_with (first | (go_at_call 54; (with_reducible refine (HN.out _ _).mono ?_); rintro e w1 ⟨rfl, rfl⟩) | fail)
      go_ret
      exact ⟨by rw [HR.out]; rfl, rfl⟩
    · have HR : Hid (r = 0) := by show _ = _; rw [← hr, if_neg h2]
      rw [if_neg h2] at hg
      clear hr h2
      have hg2 : (Op.bytesLess x.toList y.toList || x.toList == y.toList) = true := by
        cases hb : (Op.bytesLess x.toList y.toList || x.toList == y.toList) with
        | true => rfl
        | false => rw [hb] at hg; cases hg
      have hg3 : (x.toList == y.toList) = true := by rw [h1', Bool.false_or] at hg2; exact hg2
      clear hg hg2
      go_enter Tryz.func35, Tryz.ntmps35
      go_wp2_with (first | (go_at_call 54; (with_reducible refine (HN.out _ _).mono ?_); rintro e w1 ⟨rfl, rfl⟩) | fail)
      go_ret
      exact ⟨by rw [HR.out]; rfl, rfl⟩
set_option maxHeartbeats 2000000 in
theorem or_any (g : Nat) (x y : Int) (w : World) (c0 : w.cell? ⟨g, 0, none⟩ = some (.int .i64 x)) (c1 : w.cell? ⟨g, 1, none⟩ = some (.int .i64 y)) :
    Calls Tryz.prog 33 #[.slice (some ⟨g, 0, none⟩) 2 2] w fun e w' => e = .returned (.int .i64 (if x ≠ 0 then x else y)) ∧ w = w' := by
  obtain ⟨r, hr⟩ : ∃ r, (if x ≠ 0 then x else y) = r := ⟨_, rfl⟩
  rw [hr]
  go_enter Tryz.func33, Tryz.ntmps33
  go_wp2_with fail
  go_loop [2, 5, 8] (fun v2 v5 i => ∃ k : Nat, i = .int .i64 (k : Int) ∧ k ≤ 2 ∧ Hid ((0 < k → x = 0) ∧ (1 < k → y = 0))) (fun _ _ i => 2 - (intOf i).toNat)
  case atStart => exact ⟨0, rfl, by omega, fun h => absurd h (by omega), fun h => absurd h (by omega)⟩
  case round =>
    obtain ⟨k, rfl, hk, HR⟩ := hrel
    have HRR := HR
    clear HR
    rcases (show k = 0 ∨ k = 1 ∨ k = 2 by omega) with rfl | rfl | rfl
    · by_cases hx : x = 0
      · subst hx
        have HX := Lib.hid hr
        clear hr
        go_wp2_with fail
        go_round
        case rel => exact ⟨1, by go_num, by omega, fun _ => by first | rfl | trivial, fun h => absurd h (by omega)⟩
        case measure => simp [intOf]
      · rw [if_pos hx] at hr
        subst hr
        have hx2 : (x != 0) = true := by simpa using hx
        have hx3 : (x == 0) = false := by simpa using hx
        go_wp2_with fail
        go_ret
        exact ⟨rfl, rfl⟩
    · have hx0 := HRR.out.1 (by omega)
      subst hx0
      simp only [ne_eq, not_true_eq_false, if_false] at hr
      subst hr
      by_cases hy : y = 0
      · subst hy
        go_wp2_with fail
        go_round
        case rel => exact ⟨2, by go_num, by omega, fun _ => by first | rfl | trivial, fun _ => by first | rfl | trivial⟩
        case measure => simp [intOf]
      · have hx2 : (y != 0) = true := by simpa using hy
        have hx3 : (y == 0) = false := by simpa using hy
        go_wp2_with fail
        go_ret
        exact ⟨rfl, rfl⟩
    · have hx0 := HRR.out.1 (by omega)
      have hy0 := HRR.out.2 (by omega)
      subst hx0
      subst hy0
      simp only [ne_eq, not_true_eq_false, if_false] at hr
      have HX := Lib.hid hr
      clear hr
      go_wp2_with fail
      go_ret
      exact ⟨by rw [← HX.out]; rfl, rfl⟩
end Go.Proofs.YtcpkikillmmjcaaGreatDoor.LogC
