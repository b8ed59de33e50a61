/-
  The walk of the law FlowSums: for every n and l it returns true and writes nothing that was there.
  Conditions: none.
-/
import Derived.Test.YtpbaanoheeghlaaArgs
import Derived.Test.YtpbaanoheeghlaaFlow
import Derived.Lib.Hide
namespace Go.Proofs.Ytpbaanoheeghlaa.WalkFlowSums
open Go.RowKit
set_option linter.unusedVariables false

set_option maxHeartbeats 1000000 in
theorem walk (a0 : Int) (v1 : Value) (zs : List Int) (w : World) (w0 : -9223372036854775808 ≤ a0 ∧ a0 ≤ 9223372036854775807) (w1 : Args.IntsAt w v1 zs) :
    Calls Try.prog 5 #[.int .i64 a0, v1] w fun e w' => e = .returned (.bool true) ∧ Below w.heap.size w w' := by
  obtain ⟨hn1, hn2⟩ := w0
  obtain ⟨a1, cap, rfl, hcap, hcap2, hel⟩ := w1.open
  have HEL := Lib.hid hel
  clear hel w1
  by_cases hb : 0 ≤ a0 ∧ a0 ≤ 2147483647
  · obtain ⟨hb0, hb1⟩ := hb
    go_enter Try.func5, Try.ntmps5
    go_wp2_with (go_at_call 13; refine (Flow.new_ok _ hb0 hb1 _).mono ?_; rintro e w' ⟨rfl, rfl⟩)
    go_loopw [7, 8] (fun s i wr => ∃ (k : Nat) (z : Int), i = .int .i64 k ∧ s = .int .i64 z ∧ k ≤ zs.length ∧ k ≤ 60 ∧ 0 ≤ z ∧ z ≤ 2147483647 ∧ Below w.heap.size w wr ∧ wr.cell? ⟨w.heap.size, 0, none⟩ = some (.int .i64 z) ∧ wr.frozen? ⟨w.heap.size, 0, none⟩ = false) (fun _ i _ => 60 - (intOf i).toNat)
    case atStart => exact ⟨0, a0, rfl, rfl, by omega, by omega, hb0, hb1, (Below.refl _ _).alloc (Nat.le_refl _) _, by simp, by simp⟩
    case round =>
      obtain ⟨k, z, rfl, rfl, hk1, hk2, hz1, hz2, hB, hc, hf⟩ := hrel
      by_cases hlt : k < zs.length
      · by_cases hlt2 : k < 60
        · obtain ⟨b, off, rfl, hb, hv, hv1, hv2⟩ := HEL.out k hlt
          have hv' := (hB.cell (p := ⟨b, off + k, none⟩) hb).trans hv
          generalize zs.getD k 0 = v at *
          clear hv
          go_wp2_with (first | (go_at_call 14; refine (Flow.take_any _ z _ _ hc hf (by omega) (by omega)).mono ?_; rintro e w' (⟨hq, rfl, rfl⟩ | ⟨hq, hq2, rfl, rfl⟩ | ⟨hq, hq2, rfl, rfl⟩)) | (go_at_call 15; refine (Flow.give_any _ z _ _ hc hf (by omega)).mono ?_; rintro e w' (⟨hq, rfl, rfl⟩ | ⟨hq, hq2, hq3, rfl, rfl⟩ | ⟨hq, hq2, hq3, rfl, rfl⟩)) | (go_at_call 16; refine (Flow.left_any _ _ _ (by first | assumption | (simp [go_sem, hc]; rfl))).mono ?_; rintro e w' ⟨rfl, rfl⟩))
          · go_roundw
            case rel => exact ⟨k + 1, z, by go_num, rfl, by omega, by omega, by omega, by omega, hB, hc, hf⟩
            case measure => simp [intOf]; omega
          · go_roundw
            case rel => exact ⟨k + 1, z, by go_num, rfl, by omega, by omega, by omega, by omega, hB, hc, hf⟩
            case measure => simp [intOf]; omega
          · go_roundw
            case rel => exact ⟨k + 1, z + v, by go_num, rfl, by omega, by omega, by omega, by omega, hB.setCell (Nat.le_refl _) _, by simp [go_sem, hc], by simp [go_sem, hf]⟩
            case measure => simp [intOf]; omega
          · go_roundw
            case rel => exact ⟨k + 1, z, by go_num, rfl, by omega, by omega, by omega, by omega, hB, hc, hf⟩
            case measure => simp [intOf]; omega
          · go_roundw
            case rel => exact ⟨k + 1, z, by go_num, rfl, by omega, by omega, by omega, by omega, hB, hc, hf⟩
            case measure => simp [intOf]; omega
          · go_roundw
            case rel => exact ⟨k + 1, z + v, by go_num, rfl, by omega, by omega, by omega, by omega, hB.setCell (Nat.le_refl _) _, by simp [go_sem, hc], by simp [go_sem, hf]⟩
            case measure => simp [intOf]; omega
          · go_roundw
            case rel => exact ⟨k + 1, z, by go_num, rfl, by omega, by omega, by omega, by omega, hB, hc, hf⟩
            case measure => simp [intOf]; omega
        · obtain rfl : k = 60 := by omega
          go_wp2
          go_ret
          exact ⟨rfl, hB⟩
      · obtain rfl : k = zs.length := by omega
        go_wp2
        go_ret
        exact ⟨rfl, hB⟩
  · go_enter Try.func5, Try.ntmps5
    go_wp2_with (go_at_call 13; refine (Flow.new_bad _ (by omega) _).mono ?_; rintro e w' ⟨rfl, rfl⟩)
    · go_ret
      exact ⟨by simp; omega, Below.refl _ _⟩
    · go_ret
      exact ⟨rfl, Below.refl _ _⟩
end Go.Proofs.Ytpbaanoheeghlaa.WalkFlowSums
