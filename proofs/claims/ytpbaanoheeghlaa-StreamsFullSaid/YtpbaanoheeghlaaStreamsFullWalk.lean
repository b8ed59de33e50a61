/-
  The walk of the law StreamsFull: for every gap and who it returns true and writes nothing that was there.
  Conditions: none.
-/
import Derived.Test.YtpbaanoheeghlaaArgs
import Derived.Test.YtpbaanoheeghlaaStreamsPlain
import Derived.Lib.Hide
namespace Go.Proofs.Ytpbaanoheeghlaa.WalkStreamsFull
open Go.RowKit StreamC StreamsC ModL
set_option linter.unusedVariables false

theorem bl {b m B : Nat} {w w' : World} (h : Mod (fun k => k = b ∨ k = m) w w') (hB : B ≤ w.heap.size) (h1 : B ≤ b) (h2 : B ≤ m) : Below B w w' :=
  h.toBelow hB (by intro k hk h; omega)
theorem bl1 {m B : Nat} {w w' : World} (h : Mod (fun k => k = m) w w') (hB : B ≤ w.heap.size) (h2 : B ≤ m) : Below B w w' :=
  h.toBelow hB (by intro k hk h; omega)

set_option maxRecDepth 100000 in
set_option maxHeartbeats 4000000 in
theorem walk (g who : Int) (w : World) (w0 : Args.I64 g) (w1 : Args.I64 who) :
    Calls Try.prog 6 #[.int .i64 g, .int .i64 who] w fun e w' => e = .returned (.bool true) ∧ Below w.heap.size w w' := by
  clear w0 w1
  by_cases hin : 1 ≤ g ∧ g ≤ 1000 ∧ 0 ≤ who ∧ who ≤ 15
  · obtain ⟨g1, g2, q1, q2⟩ := hin
    have hp1 : 0 ≤ 2 * g * who := Int.mul_nonneg (by omega) q1
    have hp2 : 2 * g * who ≤ 30000 := by
      calc 2 * g * who ≤ 2000 * who := Int.mul_le_mul_of_nonneg_right (by omega) q1
        _ ≤ 30000 := by omega
    go_enter Try.func6, Try.ntmps6
    go_wp2_with fail
    refine (new_any w).mono ?_
    rintro e w1 ⟨rfl, hS, hB, hsz⟩
    have HS1 := Lib.hid hS
    have HB1 := Lib.hid hB
    have hsz1 : w.heap.size + 1 < w1.heap.size := by omega
    clear hS hB hsz
    go_wp2
    go_loopw [6, 7] (fun d i wr => ∃ (k : Nat) (z last : Int), i = .int .i64 k ∧ d = .int .i64 z ∧ k ≤ 16 ∧ Hid (z = 1 + 2 * g * k) ∧ 1 ≤ z ∧ z ≤ 1 + 2000 * (k : Int) ∧ 0 ≤ last ∧ last < z ∧ Hid (IsStreams wr (w.heap.size + 1) w.heap.size (lad g k) last) ∧ Hid (Below w.heap.size w wr)) (fun _ i _ => 16 - (intOf i).toNat)
    case atStart => exact ⟨0, 1, 0, rfl, rfl, by omega, by simp [Hid], by omega, by omega, by omega, by omega, HS1.out, HB1.out⟩
    case round =>
      obtain ⟨k, z, last, rfl, rfl, hk, HZ, z1, z2, l1, l2, HS, HB⟩ := hrel
      by_cases hlt : k < 16
      · have hodd : z % 2 = 1 := by
          rw [HZ.out, Int.mul_assoc]; omega
        have hnb : ¬ openBad last z := by simp only [openBad]; omega
        have HP := Lib.hid (open_ok HS.out (by rw [lad_len]; omega) l1 z (by omega) hnb (by rw [lad_live]; exact hlt))
        have HPL := Lib.hid (lad_put g g1 k)
        have HST : Hid (stateF (lad g (k + 1)) z z = 1) := by
          show _ = _
          unfold stateF
          rw [if_pos ⟨hodd, z1, Int.le_refl _⟩, HZ.out, lad_look g g1 (k + 1) k (by omega)]; rfl
        clear hodd hnb
        go_wp2_with fail
        refine HP.out.mono ?_
        rintro e w2 ⟨rfl, hS2, hM2⟩
        rw [HZ.out, HPL.out, ← HZ.out] at hS2
        have HS2 := Lib.hid hS2
        have hB2 : Below w.heap.size w w2 := HB.out.trans (bl hM2 HB.out.size (by omega) (by omega))
        have HB2 := Lib.hid hB2
        clear hS2 hM2 hB2
        go_wp2_with (go_at_call 21; refine (state_any HS2.out z (by omega)).mono ?_; rw [HST.out]; rintro e w' ⟨rfl, rfl⟩)
        go_roundw
        case rel => exact ⟨k + 1, _, z, by go_num, rfl, by omega, by show _ = _; rw [HZ.out]; push_cast; rw [Int.mul_add]; omega, by omega, by push_cast; omega, by omega, by omega, HS2.out, HB2.out⟩
        case measure => simp [intOf]; omega
      · obtain rfl : k = 16 := by omega
        have hodd : z % 2 = 1 := by
          rw [HZ.out, Int.mul_assoc]; omega
        have hnb : ¬ openBad last z := by simp only [openBad]; omega
        have HP := Lib.hid (open_full HS.out (by rw [lad_len]; omega) l1 z (by omega) hnb (by rw [lad_live]; omega))
        go_wp2_with fail
        refine HP.out.mono ?_
        rintro e w2 ⟨rfl, hS2, hM2⟩
        have HS2 := Lib.hid hS2
        have HB2 := Lib.hid (HB.out.trans (bl hM2 HB.out.size (by omega) (by omega)))
        clear hS2 hM2 HP hnb
        have F1 : Hid (stateF (lad g 16) z z = 4) := by
          show _ = _
          unfold stateF
          rw [if_pos ⟨hodd, z1, Int.le_refl _⟩, HZ.out, lad_none g g1 16 _ (by simp)]; rfl
        have hw : ∃ j : Nat, who = j ∧ j < 16 := ⟨who.toNat, by omega, by omega⟩
        have hle : 2 * g * who < 2 * g * 16 := Int.mul_lt_mul_of_pos_left (by omega) (by omega)
        have hzz : 1 + 2 * g * who ≤ z := by rw [HZ.out]; push_cast; omega
        have hl1 : lookS (lad g 16) (1 + 2 * g * who) = some 1 := by
          obtain ⟨j, rfl, hj⟩ := hw
          exact lad_look g g1 16 j hj
        have F2 : Hid (stateF (lad g 16) z (1 + 2 * g * who) = 1) := by
          show _ = _
          unfold stateF
          rw [if_pos ⟨by rw [Int.mul_assoc]; omega, by omega, hzz⟩, hl1]; rfl
        have hn3 : liveN (putS (lad g 16) (1 + 2 * g * who) 4) = 15 := by
          have := liveN_old (lad g 16) (1 + 2 * g * who) 4 1 hl1
          rw [lad_live] at this
          have e1 : one (liveB 1) = 1 := rfl
          have e2 : one (liveB 4) = 0 := rfl
          omega
        have hlen3 := putS_len (lad g 16) (1 + 2 * g * who) 4
        rw [lad_len] at hlen3
        have hnone : lookS (putS (lad g 16) (1 + 2 * g * who) 4) (z + 2) = none := by
          rw [lookS_put, if_neg (by omega), lad_none g g1 16 _ (by rw [HZ.out]; push_cast; omega)]
        have hn4 : liveN (putS (putS (lad g 16) (1 + 2 * g * who) 4) (z + 2) 1) = 16 := by
          rw [liveN_new _ _ _ hnone, hn3]; rfl
        have hlen4 := putS_len (putS (lad g 16) (1 + 2 * g * who) 4) (z + 2) 1
        have hzb : z ≤ 32001 := by push_cast at z2; omega
        have N4 := Lib.hid hn4
        have N3 := Lib.hid hn3
        have N1 : Hid (liveN (lad g 16) = 16) := lad_live g 16
        clear hn4 hn3 hnone hl1 hle z2
        go_wp2_with (first
          | (go_at_call 18; refine (many_any HS2.out (by rw [lad_len]; omega)).mono ?_; rw [N1.out]; rintro e w3 ⟨rfl, hB3⟩; have HS3 := Lib.hid (HS2.out.below hB3 HS2.out.lt.1 HS2.out.lt.2); have HB3 := Lib.hid (HB2.out.trans (hB3.mono HB2.out.size)); clear hB3)
          | (go_at_call 19; refine (last_any HS3.out).mono ?_; rintro e w' ⟨rfl, rfl⟩)
          | (go_at_call 21; refine (state_any HS3.out z (by omega)).mono ?_; rw [F1.out]; rintro e w' ⟨rfl, rfl⟩)
          | (go_at_call 22; refine (put_yes HS3.out (by rw [lad_len]; omega) (1 + 2 * g * who) 4 (by omega) (by rw [F2.out]; omega) (by omega)).mono ?_; rintro e w4 ⟨rfl, hS4, hM4⟩; have HS4 := Lib.hid hS4; have HB4 := Lib.hid (HB3.out.trans (bl1 hM4 HB3.out.size (by omega))); clear hS4 hM4))
        generalize putS (lad g 16) (1 + 2 * g * who) 4 = l3 at *
        refine (open_ok HS4.out (by omega) (by omega) (z + 2) (by omega) (by simp only [openBad]; omega) (by rw [N3.out]; omega)).mono ?_
        rintro e w5 ⟨rfl, hS5, hM5⟩
        have HS5 := Lib.hid hS5
        have HB5 := Lib.hid (HB4.out.trans (bl hM5 HB4.out.size (by omega) (by omega)))
        clear hS5 hM5
        generalize putS l3 (z + 2) 1 = l4 at *
        go_wp2_with fail
        refine (open_bad HS5.out (by omega) (z + 2) (by omega) (by simp only [openBad]; omega)).mono ?_
        rintro e w' ⟨rfl, rfl⟩
        go_wp2_with fail
        refine (open_bad HS5.out (by omega) (z + 3) (by omega) (by simp only [openBad]; omega)).mono ?_
        rintro e w' ⟨rfl, rfl⟩
        have F5 : Hid (stateF l4 (z + 2) (z + 4) = 0) := by
          show _ = _
          unfold stateF
          rw [if_neg (fun h => by have := h.2.2; omega)]
        go_wp2_with (first
          | (go_at_call 18; refine (many_any HS5.out (by omega)).mono ?_; rw [N4.out]; rintro e w6 ⟨rfl, hB6⟩; have HS6 := Lib.hid (HS5.out.below hB6 HS5.out.lt.1 HS5.out.lt.2); have HB6 := Lib.hid (HB5.out.trans (hB6.mono HB5.out.size)); clear hB6)
          | (go_at_call 21; refine (state_any HS6.out (z + 4) (by omega)).mono ?_; rw [F5.out]; rintro e w' ⟨rfl, rfl⟩))
        go_ret
        exact ⟨rfl, HB6.out⟩
  · have hc : g < 1 ∨ 1000 < g ∨ who < 0 ∨ 15 < who := by omega
    clear hin
    go_enter Try.func6, Try.ntmps6
    go_wp2_with fail
    refine (new_any w).mono ?_
    rintro e w1 ⟨rfl, hS, hB, hsz⟩
    have HS := Lib.hid hS
    have HB := Lib.hid hB
    clear hS hB
    have N0 : Hid (liveN [] = 0) := rfl
    rcases hc with hc | hc | hc | hc
    all_goals
      go_wp2_with (first
        | (go_at_call 18; refine (many_any HS.out (by simp)).mono ?_; rw [N0.out]; rintro e w3 ⟨rfl, hB3⟩; have HS3 := Lib.hid (HS.out.below hB3 HS.out.lt.1 HS.out.lt.2); have HB3 := Lib.hid (HB.out.trans (hB3.mono HB.out.size)); clear hB3)
        | (go_at_call 19; refine (last_any HS3.out).mono ?_; rintro e w' ⟨rfl, rfl⟩))
      all_goals go_ret
      all_goals exact ⟨rfl, HB3.out⟩
end Go.Proofs.Ytpbaanoheeghlaa.WalkStreamsFull
