/-
  The walk of the law CodeShort: for two texts that are not too long it returns true and writes nothing that was there.
  Conditions: the texts' lengths.
-/
import Derived.Test.YtpbaanoheeghlaaArgs
import Derived.Test.YtpbaanoheeghlaaCode
import Derived.Lib.Hide
namespace Go.Proofs.Ytpbaanoheeghlaa.WalkCodeShort
open Go.RowKit CodeC
set_option linter.unusedVariables false

def lowB (c : UInt8) : Bool := decide (97 ≤ c.toNat) && decide (c.toNat ≤ 122)
theorem low_six (l : List UInt8) (h : l.all lowB = true) : bitsN l = 6 * l.length := by
  induction l with
  | nil => rfl
  | cons c l ih =>
    simp only [List.all_cons, Bool.and_eq_true] at h
    have e : bitsN (c :: l) = bitC c + bitsN l := by simp [bitsN]
    have hc : bitC c = 6 := by
      have := h.1
      simp only [lowB, Bool.and_eq_true, decide_eq_true_eq] at this
      unfold bitC; rw [if_pos (oftI_low c this.1 this.2)]
    rw [e, hc, ih h.2, List.length_cons]; omega
theorem all_snoc (l : List UInt8) (k : Nat) (h : k < l.length) : (l.take (k + 1)).all lowB = ((l.take k).all lowB && lowB (l.getD k 0)) := by
  rw [take_snoc l k h, List.all_append]; simp

theorem low1 (c : UInt8) (h : 97 ≤ (c.toNat : Int)) : decide ((c.toNat : Int) ≤ 122) = (true && lowB c) := by
  have h1 : decide (97 ≤ c.toNat) = true := by simp; omega
  simp only [lowB, h1, Bool.true_and]; congr 1; simp; omega
theorem low0 (c : UInt8) (h : ¬ 97 ≤ (c.toNat : Int)) : false = (true && lowB c) := by
  have h1 : decide (97 ≤ c.toNat) = false := by simp; omega
  simp only [lowB, h1, Bool.true_and, Bool.false_and]
theorem app_list (a b : ByteArray) : (a ++ b).data.toList = a.data.toList ++ b.data.toList := by simp
theorem app_size (a b : ByteArray) : (a ++ b).size = a.size + b.size := by simp
theorem bel5 {w w2 w3 w4 w5 w6 : World} (h2 : Below w.heap.size w w2) (h3 : Below w2.heap.size w2 w3) (h4 : Below w3.heap.size w3 w4) (h5 : Below w4.heap.size w4 w5) (h6 : Below w5.heap.size w5 w6) : Below w.heap.size w w6 := by
  have a2 := h2.size; have a3 := h3.size; have a4 := h4.size; have a5 := h5.size
  exact (((h2.trans (h3.mono a2)).trans (h4.mono (by omega))).trans (h5.mono (by omega))).trans (h6.mono (by omega))
theorem bits_eQ (t : ByteArray) (ht : t.data.toList = [101, 81]) (w : World) : Calls Try.prog 27 #[.string t] w fun e w' => e = .returned (.int .i64 15) ∧ Below w.heap.size w w' := by
  have h2 : t.size = 2 := by
    have : t.data.toList.length = t.size := by rw [Array.length_toList]; rfl
    rw [← this, ht]; rfl
  refine (bits_any t w (by omega)).mono fun e w' ⟨h1, h2⟩ => ⟨?_, h2⟩
  rw [h1, ht]
  have : bitsN [101, 81] = 15 := by decide +kernel
  rw [this]; rfl
set_option maxRecDepth 100000 in
set_option maxHeartbeats 4000000 in
theorem walk (a0 : ByteArray) (a1 : ByteArray) (w : World) (w0 : a0.size ≤ 1048576) (w1 : a1.size ≤ 1048576) :
    Calls Try.prog 8 #[.string a0, .string a1] w fun e w' => e = .returned (.bool true) ∧ Below w.heap.size w w' := by
  have hls : a0.data.toList.length = a0.size := by rw [Array.length_toList]; rfl
  have hlt : a1.data.toList.length = a1.size := by rw [Array.length_toList]; rfl
  have hb := bitsN_bd a0.data.toList
  have hbt := bitsN_bd a1.data.toList
  have hlow := low_six a0.data.toList
  have HLOW := Lib.hid hlow
  have HLS := Lib.hid hls
  rw [hls] at hb
  rw [hlt] at hbt
  have HLT := Lib.hid hlt
  clear hlow hls hlt
  go_enter Try.func8, Try.ntmps8
  go_wp2_with fail
  refine (bits_eQ _ rfl _).mono ?_
  rintro e w2 ⟨rfl, hB2⟩
  have HB2 := Lib.hid hB2
  clear hB2
  go_wp2_with fail
  refine (bits_any _ _ (by omega)).mono ?_
  rintro e w3 ⟨rfl, hB3⟩
  have HB3 := Lib.hid hB3
  clear hB3
  go_wp2_with fail
  go_loop [7, 8] (fun o i => ∃ k : Nat, k ≤ a0.size ∧ i = .int .i64 k ∧ o = .bool ((a0.data.toList.take k).all lowB)) (fun _ i => a0.size - (intOf i).toNat)
  case atStart => exact ⟨0, by omega, rfl, rfl⟩
  case round =>
    obtain ⟨k, hk, rfl, rfl⟩ := hrel
    by_cases hlt : k < a0.size
    · have HS := Lib.hid (all_snoc a0.data.toList k (by rw [HLS.out]; exact hlt))
      have HG : Hid (a0.data.toList.getD k 0 = a0[k]) := by
        show _ = _
        rw [List.getD_eq_getElem?_getD, List.getElem?_eq_getElem (by rw [HLS.out]; exact hlt)]; rfl
      cases hA : ((a0.data.toList.take k).all lowB)
      all_goals
        rw [hA] at HS
        clear hA
        go_wp2
        all_goals
          go_round
          case rel => exact ⟨k + 1, by omega, by go_num, by rw [HS.out, HG.out]; first | rfl | (rw [← low1 _ (by assumption)]) | (rw [← low0 _ (by assumption)])⟩
          case measure => simp [intOf]; omega
    · have HT := Lib.hid (List.take_of_length_le (l := a0.data.toList) (i := k) (by rw [HLS.out]; omega))
      rw [HT.out]
      clear HT
      have hN2 : a0.data.toList.all lowB = true → (((bitsN a0.data.toList : Nat) : Int) != 6 * (a0.size : Int)) = false := fun h => by rw [HLOW.out h, HLS.out]; simp
      have HAL := Lib.hid (app_list a0 a1)
      have HAS := Lib.hid (app_size a0 a1)
      cases hA : (a0.data.toList.all lowB)
      all_goals
        try replace hN2 := hN2 hA
        clear HLOW
        go_wp2_with fail
        refine (encode_any _ _ (by omega)).mono ?_
        rintro e w4 ⟨a4, c4, rfl, hB4⟩
        have HB4 := Lib.hid hB4
        clear hB4
        go_wp2_with fail
        refine (encode_any _ _ (by omega)).mono ?_
        rintro e w5 ⟨a5, c5, rfl, hB5⟩
        have HB5 := Lib.hid hB5
        clear hB5
        go_wp2_with fail
        refine (encode_any _ _ (by rw [HAS.out]; omega)).mono ?_
        rintro e w6 ⟨a6, c6, rfl, hB6⟩
        have HB6 := Lib.hid hB6
        clear hB6
        rw [HAL.out, bitsN_append]
        clear hA
        try clear hN2
        generalize bitsN a0.data.toList = N at *
        generalize bitsN a1.data.toList = M at *
        have h1 : (N + M + 7) / 8 ≤ (N + 7) / 8 + (M + 7) / 8 := by omega
        have h2 : (N + 7) / 8 + (M + 7) / 8 ≤ (N + M + 7) / 8 + 1 := by omega
        have h3 : (N + 7) / 8 ≤ 1048576 * 9 := by omega
        have h4 : (M + 7) / 8 ≤ 1048576 * 9 := by omega
        generalize (N + M + 7) / 8 = C at *
        generalize (N + 7) / 8 = A at *
        generalize (M + 7) / 8 = B at *
        go_wp2
        go_ret
        refine ⟨?_, bel5 HB2.out HB3.out HB4.out HB5.out HB6.out⟩
        first | rfl | (simp; done) | (simp; omega)
end Go.Proofs.Ytpbaanoheeghlaa.WalkCodeShort
