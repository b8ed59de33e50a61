/-
  Contracts of package wire over this seat's translation.
  Conditions: as each theorem says.
-/
import Derived.Test.YtbbhinhledkceaaProg
import Derived.WalkKit
import Derived.WalkSpells
import Derived.WalkLawsBesides
import Derived.Lib.Hide
import Derived.Test.YtbbhinhledkceaaBits
import Derived.Test.YtbbhinhledkceaaBytes
namespace Go.Proofs.Ytbbhinhledkceaa.WireC
open Go.RowKit
set_option linter.unusedSimpArgs false
set_option linter.unusedVariables false

theorem put_bad (n bits first : Int) (w : World) (hn : -9223372036854775808 ≤ n ∧ n ≤ 9223372036854775807)
    (h : bits < 1 ∨ 8 < bits ∨ n < 0 ∨ 2147483647 < n) :
    Calls Try.prog 28 #[.int .i64 n, .int .i64 bits, .int .i64 first] w fun e w' => e = .returned (.tuple #[.slice none 0 0, .iface 49 (.int .i64 1)]) ∧ w = w' := by
  by_cases h1 : bits < 1
  · go_enter Try.func28, Try.ntmps28
    go_wp2
    go_ret2
    exact ⟨rfl, rfl⟩
  · by_cases h2 : 8 < bits
    · go_enter Try.func28, Try.ntmps28
      go_wp2
      go_ret2
      exact ⟨rfl, rfl⟩
    · by_cases h3 : n < 0
      · go_enter Try.func28, Try.ntmps28
        go_wp2
        go_ret2
        exact ⟨rfl, rfl⟩
      · have h4 : 2147483647 < n := by omega
        go_enter Try.func28, Try.ntmps28
        go_wp2
        go_ret2
        exact ⟨rfl, rfl⟩
theorem pow_le_256 (i : Nat) (h : i ≤ 8) : (2 : Int) ^ i ≤ 256 := by
  calc (2 : Int) ^ i ≤ 2 ^ 8 := by exact_mod_cast Nat.pow_le_pow_right (by omega) h
    _ = 256 := rfl
/-- The mask of so many bits, under a name. -/
def mask (bits : Int) : Int := 2 ^ bits.toNat - 1
theorem mask_facts (bits first : Int) (hb1 : 1 ≤ bits) (hb2 : bits ≤ 8) (hf1 : 0 ≤ first) (hf2 : first ≤ 255) (hf3 : first % 2 ^ bits.toNat = 0) :
    ∃ M : Int, mask bits = M ∧ wrap64 (2 ^ bits.toNat) = M + 1 ∧ 1 ≤ M ∧ M ≤ 255 ∧ first + M ≤ 255 ∧ (Go.bits BinOp.and .i64 first M != 0) = false ∧ ∀ n, 0 ≤ n → n ≤ M → Go.bits BinOp.or .i64 first n = first + n := by
  have hp := pow_le_256 bits.toNat (by omega)
  have hp0 : (2 : Int) ≤ 2 ^ bits.toNat := by
    calc (2 : Int) = 2 ^ 1 := rfl
      _ ≤ 2 ^ bits.toNat := by exact_mod_cast Nat.pow_le_pow_right (by omega) (by omega)
  have hA := BitsL.mask_i64 bits.toNat (by omega) first hf1 (by omega)
  rw [hf3] at hA
  have hs : first ≤ 256 - 2 ^ bits.toNat := by
    obtain rfl | rfl | rfl | rfl | rfl | rfl | rfl | rfl : bits = 1 ∨ bits = 2 ∨ bits = 3 ∨ bits = 4 ∨ bits = 5 ∨ bits = 6 ∨ bits = 7 ∨ bits = 8 := by omega
    all_goals (simp at hf3 ⊢; omega)
  refine ⟨2 ^ bits.toNat - 1, rfl, ?_, by omega, by omega, by omega, by rw [hA]; rfl, fun n h1 h2 => BitsL.join_i64 bits.toNat first n hf1 hf3 (by omega) h1 (by omega) (by omega)⟩
  rw [IntWalk.wrap64_in _ ⟨by omega, by omega⟩]; omega
set_option maxHeartbeats 2000000 in
theorem put_small (n bits first : Int) (w : World) (hn : 0 ≤ n) (hb1 : 1 ≤ bits) (hb2 : bits ≤ 8) (hlt : n < mask bits) (hf1 : 0 ≤ first) (hf2 : first ≤ 255) (hf3 : first % 2 ^ bits.toNat = 0) :
    Calls Try.prog 28 #[.int .i64 n, .int .i64 bits, .int .i64 first] w fun e w' => e = .returned (.tuple #[.slice (some ⟨w.heap.size, 0, none⟩) 1 1, .nilIface]) ∧ w.alloc (.cells #[.int .u8 (first + n)] 5) = w' := by
  obtain ⟨M, hM, hw, hM1, hM2, hs, hA, hO⟩ := mask_facts bits first hb1 hb2 hf1 hf2 hf3
  rw [hM] at hlt
  have hO := hO n hn (by omega)
  clear hM hf3
  go_enter Try.func28, Try.ntmps28
  go_wp2
  go_ret2
  exact ⟨rfl, rfl⟩

/-- What stands behind the first byte. -/
def tailF : Nat → Int → List Int
  | 0, n => [n]
  | f + 1, n => if n < 128 then [n] else (n % 128 + 128) :: tailF f (n / 128)
theorem tail_end (f : Nat) (n : Int) (h : n < 128) : tailF f n = [n] := by cases f <;> simp [tailF, h]
theorem tail_step (f : Nat) (m : Int) (h : 128 ≤ m) (hb : m < 128 ^ (f + 1)) : ∃ f', f = f' + 1 ∧ tailF f m = (m % 128 + 128) :: tailF f' (m / 128) ∧ m / 128 < 128 ^ (f' + 1) := by
  cases f with
  | zero => simp at hb; omega
  | succ f =>
    refine ⟨f, rfl, by rw [tailF, if_neg (by omega)], ?_⟩
    have : m < 128 ^ (f + 1) * 128 := by rw [← Int.pow_succ]; exact hb
    omega

set_option maxHeartbeats 4000000 in
theorem put_large (n bits first : Int) (w : World) (hn0 : 0 ≤ n) (hn : n ≤ 2147483647) (hb1 : 1 ≤ bits) (hb2 : bits ≤ 8) (hlt : mask bits ≤ n) (hf1 : 0 ≤ first) (hf2 : first ≤ 255) (hf3 : first % 2 ^ bits.toNat = 0) :
    Calls Try.prog 28 #[.int .i64 n, .int .i64 bits, .int .i64 first] w fun e w' => ∃ v, e = .returned (.tuple #[v, .nilIface]) ∧ BytesL.Own w' w.heap.size v ((first + mask bits) :: tailF 4 (n - mask bits)) ∧ Below w.heap.size w w' := by
  obtain ⟨M, hM, hw, hM1, hM2, hs, hA, hO⟩ := mask_facts bits first hb1 hb2 hf1 hf2 hf3
  rw [hM] at hlt ⊢
  have hO := hO M (by omega) (by omega)
  clear hM hf3
  obtain ⟨i0, hi, hz0, hz1, hz2⟩ := info_parts BytesL.infoB
  have HZ := Lib.hid hz0
  have HI := Lib.hid hi
  have HZ1 := Lib.hid hz1
  have HZ2 := Lib.hid hz2
  clear hz0 hi hz1 hz2
  go_enter Try.func28, Try.ntmps28
  go_wp2
  clear hw hA hO
  go_loopw [0, 9] (fun m b wr => ∃ (q : Int) (pre : List Int) (f : Nat), m = .int .i64 q ∧ 0 ≤ q ∧ q ≤ 2147483647 ∧ q < 128 ^ (f + 1) ∧ pre.length + f ≤ 5 ∧ BytesL.Own wr w.heap.size b pre ∧ Below w.heap.size w wr ∧ Hid (pre ++ tailF f q = (first + M) :: tailF 4 (n - M))) (fun m _ _ => (intOf m).toNat)
  case atStart => exact ⟨n - M, [first + M], 4, rfl, by omega, by omega, by omega, by simp, World.ownsRow_lit _ _ _ (Nat.le_refl _) (by decide) rfl, (Below.refl _ _).alloc (Nat.le_refl _) _, rfl⟩
  case round =>
    obtain ⟨q, pre, f, rfl, hq0, hq1, hq2, hpl, hown, hB, HP⟩ := hrel
    have hsz := hB.size
    have hB2 := fun o => hB.alloc hsz o
    have HB2 := Lib.hid hB2
    clear hB2
    by_cases hge : 128 ≤ q
    · obtain ⟨f', hff, ht, hlt'⟩ := tail_step f q hge hq2
      have HT := Lib.hid ht
      have HF := Lib.hid hff
      clear ht hff
      have hbyte := BitsL.high_u8 (q % 256) (by omega) (by omega)
      rw [show q % 256 % 128 = q % 128 by omega] at hbyte
      go_wp2_with (at_builtin; refine BytesL.wpList_append_byte rfl _ _ rfl w.heap.size _ pre rfl (World.ownsRow.alloc hown _) wr.heap.size 1 _ rfl (BytesL.cell_new1 _ _ _) (by omega) (BytesL.le_alloc _ hsz) ?_; intro v' w1 hown1 hB1 hg1; clear hg1)
      go_roundw
      case rel => exact ⟨q / 128, pre ++ [q % 128 + 128], f', rfl, by omega, by omega, hlt', by have := HF.out; simp; omega, hown1, (HB2.out _).trans hB1, by rw [← HP.out, HT.out]; simp [Hid]⟩
      case measure => simp [intOf]; omega
    · have HE := Lib.hid (tail_end f q (by omega))
      go_wp2_with (at_builtin; refine BytesL.wpList_append_byte rfl _ _ rfl w.heap.size _ pre rfl (World.ownsRow.alloc hown _) wr.heap.size 1 _ rfl (BytesL.cell_new1 _ _ _) (by omega) (BytesL.le_alloc _ hsz) ?_; intro v' w1 hown1 hB1 hg1; clear hg1)
      go_ret2
      exact ⟨v', rfl, by rw [← HP.out, HE.out]; exact hown1, (HB2.out _).trans hB1⟩

/-- The bytes of a number behind the high bits of a byte. -/
def putL (n bits first : Int) : List Int := if n < mask bits then [first + n] else (first + mask bits) :: tailF 4 (n - mask bits)
theorem put_any (n bits first : Int) (w : World) (hn : -9223372036854775808 ≤ n ∧ n ≤ 9223372036854775807) (hf1 : 0 ≤ first) (hf2 : first ≤ 255) (hf3 : 1 ≤ bits → bits ≤ 8 → first % 2 ^ bits.toNat = 0) :
    Calls Try.prog 28 #[.int .i64 n, .int .i64 bits, .int .i64 first] w fun e w' =>
      (1 ≤ bits ∧ bits ≤ 8 ∧ 0 ≤ n ∧ n ≤ 2147483647 ∧ ∃ a cap, e = .returned (.tuple #[.slice a (putL n bits first).length cap, .nilIface]) ∧ BytesL.Own w' w.heap.size (.slice a (putL n bits first).length cap) (putL n bits first) ∧ Below w.heap.size w w') ∨
      ((bits < 1 ∨ 8 < bits ∨ n < 0 ∨ 2147483647 < n) ∧ e = .returned (.tuple #[.slice none 0 0, .iface 49 (.int .i64 1)]) ∧ w = w') := by
  by_cases h : bits < 1 ∨ 8 < bits ∨ n < 0 ∨ 2147483647 < n
  · exact (put_bad n bits first w hn h).mono fun e w' hh => .inr ⟨h, hh.1, hh.2⟩
  · by_cases hs : n < mask bits
    · refine (put_small n bits first w (by omega) (by omega) (by omega) hs hf1 hf2 (hf3 (by omega) (by omega))).mono fun e w' hh => .inl ⟨by omega, by omega, by omega, by omega, some ⟨w.heap.size, 0, none⟩, 1, ?_, ?_, ?_⟩
      · rw [putL, if_pos hs]; exact hh.1
      · rw [putL, if_pos hs, ← hh.2]; exact World.ownsRow_lit _ _ 1 (Nat.le_refl _) (by decide) rfl
      · rw [← hh.2]; exact (Below.refl _ _).alloc (Nat.le_refl _) _
    · refine (put_large n bits first w (by omega) (by omega) (by omega) (by omega) (by omega) hf1 hf2 (hf3 (by omega) (by omega))).mono fun e w' hh => ?_
      obtain ⟨v, h1, h2, h3⟩ := hh
      obtain ⟨a, cap, rfl, _⟩ := h2.slice
      refine .inl ⟨by omega, by omega, by omega, by omega, a, cap, ?_, ?_, h3⟩
      · rw [putL, if_neg hs]; exact h1
      · rw [putL, if_neg hs]; exact h2

theorem tail_mono (f : Nat) : ∀ a b : Int, 0 ≤ a → a ≤ b → (tailF f a).length ≤ (tailF f b).length := by
  induction f with
  | zero => intro a b _ _; simp [tailF]
  | succ f ih =>
    intro a b h0 h
    by_cases hb : b < 128
    · rw [tail_end _ _ hb, tail_end _ _ (by omega)]; simp
    · by_cases ha : a < 128
      · rw [tail_end _ _ ha, tailF, if_neg hb]; simp
      · rw [tailF, if_neg ha, tailF, if_neg hb]
        simp only [List.length_cons]
        have := ih (a / 128) (b / 128) (by omega) (by omega)
        omega
theorem tail_pos (f : Nat) (a : Int) : 1 ≤ (tailF f a).length := by
  cases f with
  | zero => simp [tailF]
  | succ f => rw [tailF]; split <;> simp
theorem tail_len (f : Nat) : ∀ a : Int, (tailF f a).length ≤ f + 1 := by
  induction f with
  | zero => intro a; simp [tailF]
  | succ f ih =>
    intro a
    rw [tailF]
    split
    · simp
    · simp only [List.length_cons]
      have := ih (a / 128)
      omega
theorem putL_len (n bits first : Int) : (putL n bits first).length ≤ 6 := by
  unfold putL
  split
  · simp
  · simp only [List.length_cons]
    have := tail_len 4 (n - mask bits)
    omega
theorem mask_pos (bits : Int) (h : 1 ≤ bits) : 1 ≤ mask bits := by
  unfold mask
  have : (2 : Int) ≤ 2 ^ bits.toNat := by
    calc (2 : Int) = 2 ^ 1 := rfl
      _ ≤ 2 ^ bits.toNat := by exact_mod_cast Nat.pow_le_pow_right (by omega) (by omega)
  omega
theorem putL_mono (a b bits : Int) (h1 : 1 ≤ bits) (h0 : 0 ≤ a) (h : a ≤ b) : (putL a bits 0).length ≤ (putL b bits 0).length := by
  have hm := mask_pos bits h1
  unfold putL
  by_cases hb : b < mask bits
  · rw [if_pos (by omega), if_pos hb]; simp
  · by_cases ha : a < mask bits
    · rw [if_pos ha, if_neg hb]; simp
    · rw [if_neg ha, if_neg hb]
      simp only [List.length_cons]
      have := tail_mono 4 (a - mask bits) (b - mask bits) (by omega) (by omega)
      omega
theorem putL_more (a bits : Int) (h1 : 1 ≤ bits) (h0 : 0 ≤ a) : (putL a (bits + 1) 0).length ≤ (putL a bits 0).length := by
  have hm : mask (bits + 1) = 2 * mask bits + 1 := by
    unfold mask
    rw [show (bits + 1).toNat = bits.toNat + 1 by omega, Int.pow_succ]; omega
  have hp := mask_pos bits h1
  unfold putL
  by_cases hb : a < mask bits
  · rw [if_pos (by omega), if_pos hb]; simp
  · by_cases ha : a < mask (bits + 1)
    · rw [if_pos ha, if_neg hb]; simp
    · rw [if_neg ha, if_neg hb]
      simp only [List.length_cons]
      have := tail_mono 4 (a - mask (bits + 1)) (a - mask bits) (by omega) (by omega)
      omega
end Go.Proofs.Ytbbhinhledkceaa.WireC
