/-
  The reference's PrintEntry over this seat's translation, exactly.
  Conditions: the entry is a right one.
-/
import Derived.Test.YtcpkikillmmjcaaGreatDoorLogEntry
namespace Go.Proofs.YtcpkikillmmjcaaGreatDoor.LogC
open Go.RowKit Go.Shelf LogP LineC RowsK RowsM Args ModL
set_option linter.unusedVariables false
set_option linter.unusedSimpArgs false

/-- The numbers ahead of a place, a blank behind each. -/
def flatN (en : En) (k : Nat) : List UInt8 := (((nums en).take k).map (fun n => Lib.itoa n ++ [32])).flatten
theorem flatN_step (en : En) (k : Nat) (h : k < 4) : flatN en (k + 1) = flatN en k ++ (Lib.itoa ((nums en).getD k 0) ++ [32]) := by
  unfold flatN
  rw [nums_at en k h]
  simp
theorem flatN_all (en : En) : flatN en 4 ++ (en.method.data.toList ++ ([32] ++ en.path.data.toList)) = writeE en := by
  unfold flatN writeE partsE
  rw [Lib.join_cons]
  simp [nums, Lib.joinTail]
theorem digits_itoa (x : Int) (h0 : 0 ≤ x) (h1 : x ≤ 1000000) (w : World) : Calls Tryz.prog 19 #[.int .i64 x] w fun e w' => e = .returned (.string (itoaB x)) ∧ w = w' := by
  obtain ⟨m, rfl⟩ := Int.eq_ofNat_of_zero_le h0
  have e : itoaB (m : Int) = decS m := by simp [itoaB, decS, Lib.itoa]
  rw [e]
  exact digits_any m (by omega) w
theorem itoaB_len (x : Int) (h0 : 0 ≤ x) (h1 : x ≤ 1000000) : (itoaB x).size ≤ 7 := by
  obtain ⟨m, rfl⟩ := Int.eq_ofNat_of_zero_le h0
  unfold itoaB
  rw [size_mk, show Lib.itoa (m : Int) = Lib.decDigits m from by simp [Lib.itoa]]
  exact digits_len 6 m (by omega)
set_option maxRecDepth 100000 in
set_option maxHeartbeats 8000000 in
theorem rprint_any (en : En) (hck : checkE en = 0) (w : World) : Calls Tryz.prog 7 #[enV en] w fun e w' => e = .returned (.string ⟨(writeE en).toArray⟩) ∧ Below w.heap.size w w' := by
  have HNS : Hid (∀ k, k < 4 → 0 ≤ (nums en).getD k 0 ∧ (nums en).getD k 0 ≤ 1000000) := fun k hk => by
    obtain ⟨a, b, c, d⟩ := rangeE_bd (check_parts hck).1
    rcases k with _ | _ | _ | _ | k
    · exact a
    · exact b
    · exact c
    · exact d
    · omega
  have hm : en.method.size ≤ 400 := by
    have h2 := (check_parts hck).2.1
    simp only [tokL, Bool.and_eq_true, decide_eq_true_eq] at h2
    rw [size_list]; exact h2.1.2
  have hp : en.path.size ≤ 400 := by
    have h3 := (check_parts hck).2.2
    simp only [wordL, plainL, Bool.and_eq_true, decide_eq_true_eq] at h3
    rw [size_list]; exact h3.1.2.1.1.1
  have HALL := Lib.hid (flatN_all en)
  clear hck
  obtain ⟨R, hR⟩ : ∃ R, writeE en = R := ⟨_, rfl⟩
  rw [hR] at HALL ⊢
  clear hR
  unfold enV
  go_enter Tryz.func7, Tryz.ntmps7
  go_wp2_with fail
  have hB0 : Below w.heap.size w ((w.alloc (.cells #[.int .i64 en.time, .int .i64 en.code, .int .i64 en.bytes, .int .i64 en.took, .string en.method, .string en.path] 23)).alloc (.cells #[.int .i64 en.time, .int .i64 en.code, .int .i64 en.bytes, .int .i64 en.took] 3)) := ((Below.refl _ _).alloc (Nat.le_refl _) _).alloc (by simp) _
  have p4 : ((w.alloc (.cells #[.int .i64 en.time, .int .i64 en.code, .int .i64 en.bytes, .int .i64 en.took, .string en.method, .string en.path] 23)).alloc (.cells #[.int .i64 en.time, .int .i64 en.code, .int .i64 en.bytes, .int .i64 en.took] 3)).cell? ⟨w.heap.size, 4, none⟩ = some (.string en.method) := by
    rw [World.cell?_alloc_lt _ _ ⟨w.heap.size, 4, none⟩ (by simp)]; simp
  have p5 : ((w.alloc (.cells #[.int .i64 en.time, .int .i64 en.code, .int .i64 en.bytes, .int .i64 en.took, .string en.method, .string en.path] 23)).alloc (.cells #[.int .i64 en.time, .int .i64 en.code, .int .i64 en.bytes, .int .i64 en.took] 3)).cell? ⟨w.heap.size, 5, none⟩ = some (.string en.path) := by
    rw [World.cell?_alloc_lt _ _ ⟨w.heap.size, 5, none⟩ (by simp)]; simp
  have hnc : ∀ k, k < 4 → ((w.alloc (.cells #[.int .i64 en.time, .int .i64 en.code, .int .i64 en.bytes, .int .i64 en.took, .string en.method, .string en.path] 23)).alloc (.cells #[.int .i64 en.time, .int .i64 en.code, .int .i64 en.bytes, .int .i64 en.took] 3)).cell? ⟨w.heap.size + 1, k, none⟩ = some (.int .i64 ((nums en).getD k 0)) := fun k hk => by
    have h : w.heap.size + 1 = (w.alloc (.cells #[.int .i64 en.time, .int .i64 en.code, .int .i64 en.bytes, .int .i64 en.took, .string en.method, .string en.path] 23)).heap.size := by simp
    rw [h]
    rcases k with _ | _ | _ | _ | k
    · simp [nums]
    · simp [nums]
    · simp [nums]
    · simp [nums]
    · omega
  have HB0 := Lib.hid hB0
  have HNC := Lib.hid hnc
  clear hB0 hnc
  generalize ((w.alloc (.cells #[.int .i64 en.time, .int .i64 en.code, .int .i64 en.bytes, .int .i64 en.took, .string en.method, .string en.path] 23)).alloc (.cells #[.int .i64 en.time, .int .i64 en.code, .int .i64 en.bytes, .int .i64 en.took] 3)) = W1 at *
  go_loop [4, 5] (fun sv iv => ∃ k : Nat, k ≤ 4 ∧ iv = .int .i64 k ∧ ∃ A : ByteArray, sv = .string A ∧ A.size ≤ 8 * k ∧ Hid (A.data.toList = flatN en k)) (fun _ iv => 4 - (intOf iv).toNat)
  case atStart => exact ⟨0, by omega, rfl, ByteArray.empty, rfl, by simp, rfl⟩
  case round =>
    obtain ⟨k, hk, rfl, A, rfl, hA, HA⟩ := hrel
    by_cases hlt : k < 4
    · have hlt2 : (k : Int) < 4 := by omega
      have q := HNC.out k hlt
      have hr := HNS.out k hlt
      have HST := Lib.hid (flatN_step en k hlt)
      obtain ⟨x, hx⟩ : ∃ x, (nums en).getD k 0 = x := ⟨_, rfl⟩
      rw [hx] at q hr HST
      clear hx
      have HD := Lib.hid (digits_itoa x hr.1 hr.2)
      have hl := itoaB_len x hr.1 hr.2
      have HDD : Hid ((itoaB x).data.toList = Lib.itoa x) := rfl
      obtain ⟨D, hD⟩ : ∃ D, itoaB x = D := ⟨_, rfl⟩
      rw [hD] at HD hl HDD
      clear hD hr
      have h6 : ¬ 9223372036854775807 < A.size + D.size := by omega
      have h7 : ¬ 9223372036854775807 < A.size + D.size + 1 := by omega
      go_wp2_with (first | (go_at_call 19; (with_reducible refine (HD.out _).mono ?_); rintro e w1 ⟨rfl, rfl⟩) | fail)
      go_round
      case rel =>
        refine ⟨k + 1, by omega, by go_num, _, rfl, ?_, ?_⟩
        · have h32 : (⟨#[32]⟩ : ByteArray).size = 1 := rfl
          simp only [ByteArray.size_append, h32]; omega
        · show (A ++ D ++ _).data.toList = _
          rw [HST.out, ← HA.out, ← HDD.out]
          simp
      case measure => simp [intOf]; omega
    · obtain rfl : k = 4 := by omega
      have h6 : ¬ 9223372036854775807 < A.size + en.method.size := by omega
      have h7 : ¬ 9223372036854775807 < A.size + en.method.size + 1 := by omega
      have h8 : ¬ 9223372036854775807 < A.size + en.method.size + 1 + en.path.size := by omega
      go_wp2_with fail
      go_ret
      refine ⟨?_, HB0.out⟩
      have e : (A ++ en.method ++ ⟨#[32]⟩ ++ en.path : ByteArray) = ⟨R.toArray⟩ := by
        apply ba_eq
        rw [← HALL.out, ← HA.out]
        simp
      rw [← e]
      rfl
end Go.Proofs.YtcpkikillmmjcaaGreatDoor.LogC
