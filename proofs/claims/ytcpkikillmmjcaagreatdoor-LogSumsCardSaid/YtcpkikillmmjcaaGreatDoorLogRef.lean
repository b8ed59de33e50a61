/-
  The reference's number, Digits, over this seat's translation, exactly.
  Conditions: the text's length; the number's bound.
-/
import Derived.Test.YtcpkikillmmjcaaGreatDoorTokRef
import Derived.Test.YtcpkikillmmjcaaGreatDoorLogReadP
import Derived.Deep.QuietTactic
import Derived.BigQuiet
import Derived.WalkSmall
import Derived.WalkSpells
import Derived.WalkLawsBesides
namespace Go.Proofs.YtcpkikillmmjcaaGreatDoor.LogC
open Go.RowKit Go.Shelf LogP LineC
set_option linter.unusedVariables false
set_option linter.unusedSimpArgs false

theorem take_byte (s : ByteArray) (k : Nat) (h : k < s.size) : s.data.toList.take (k + 1) = s.data.toList.take k ++ [s[k]] := by
  rw [List.take_succ_eq_append_getElem (by rw [← size_list]; exact h)]; rfl
theorem valD_bd : ∀ (l : List UInt8) (acc : Int), l.all isD = true → 0 ≤ acc → 0 ≤ valD acc l ∧ valD acc l < (acc + 1) * 10 ^ l.length
  | [], acc, h, ha => by simp [valD]; omega
  | c :: r, acc, h, ha => by
    rw [List.all_cons, Bool.and_eq_true] at h
    have hc : 48 ≤ c.toNat ∧ c.toNat ≤ 57 := by simpa [isD] using h.1
    have := valD_bd r (acc * 10 + (c.toNat : Int) - 48) h.2 (by omega)
    simp only [valD, List.length_cons]
    refine ⟨this.1, Int.lt_of_lt_of_le this.2 ?_⟩
    rw [Int.pow_succ, Int.mul_comm (10 ^ r.length) 10, ← Int.mul_assoc]
    exact Int.mul_le_mul_of_nonneg_right (by omega) (Int.pow_nonneg (by omega))
theorem valD_seven (l : List UInt8) (h : l.all isD = true) (hl : l.length ≤ 7) : 0 ≤ valD 0 l ∧ valD 0 l < 10000000 := by
  have h1 := valD_bd l 0 h (by omega)
  refine ⟨h1.1, Int.lt_of_lt_of_le h1.2 ?_⟩
  have : (10 : Int) ^ l.length ≤ 10 ^ 7 := by
    have h2 : (10 : Nat) ^ l.length ≤ 10 ^ 7 := Nat.pow_le_pow_right (by omega) hl
    exact_mod_cast h2
  omega
set_option maxHeartbeats 2000000 in
theorem rnumber_any (s : ByteArray) (hs : s.size ≤ 4611686018427387904) (w : World) : Calls Tryz.prog 24 #[.string s] w fun e w' => e = .returned (.int .i64 (numD s.data.toList)) ∧ w = w' := by
  obtain ⟨R, hR⟩ : ∃ R, numD s.data.toList = R := ⟨_, rfl⟩
  rw [hR]
  have HR := Lib.hid hR
  clear hR
  have hem := emp_list s
  have hsz := size_list s
  rcases he : s.toList.isEmpty with _ | _
  · rw [hem] at he
    have hpos : 0 < s.data.toList.length := by
      rcases hl : s.data.toList with _ | ⟨a, t⟩
      · rw [hl] at he; cases he
      · simp
    obtain ⟨c0, hc0⟩ : ∃ c0, s.data.toList[0]? = some c0 := ⟨_, List.getElem?_eq_getElem hpos⟩
    have i0 := sidx s 0 0 rfl c0 hc0
    have HC := Lib.hid hc0
    have hne : s.data.toList ≠ [] := fun h => by rw [h] at hpos; simp at hpos
    have HNE := Lib.hid hne
    rw [← hem] at he
    have hp : (0 : Int) < (s.size : Int) := by omega
    by_cases h7 : 7 < s.size
    · have h7' : (7 : Int) < (s.size : Int) := by omega
      have hrr : R = -1 := by rw [← HR.out]; unfold numD; rw [if_pos (.inr (.inl (by omega)))]
      subst hrr
      clear HR hc0 hpos hne hem hsz
      go_enter Tryz.func24, Tryz.ntmps24
      go_wp2
      go_ret
      exact ⟨rfl, rfl⟩
    · have h7' : (s.size : Int) ≤ 7 := by omega
      by_cases hz : c0 = 48 ∧ 1 < s.size
      · obtain ⟨rfl, h1⟩ := hz
        have h1' : (1 : Int) < (s.size : Int) := by omega
        have hrr : R = -1 := by
          rw [← HR.out]; unfold numD
          rw [if_pos (.inr (.inr ⟨by rw [List.head?_eq_getElem?]; exact HC.out, by omega⟩))]
        subst hrr
        clear HR hc0 hpos hne hem hsz
        go_enter Tryz.func24, Tryz.ntmps24
        go_wp2
        go_ret
        exact ⟨rfl, rfl⟩
      · have hrr : R = if s.data.toList.all isD then valD 0 s.data.toList else -1 := by
          rw [← HR.out]; unfold numD
          rw [if_neg]
          rintro (h | h | ⟨h, h2⟩)
          · exact HNE.out h
          · omega
          · rw [List.head?_eq_getElem?, HC.out] at h
            exact hz ⟨Option.some.inj h, by omega⟩
        have HRR := Lib.hid hrr
        have hD : (c0.toNat ≠ 48) ∨ (c0 = 48 ∧ s.size = 1) := by
          by_cases h : c0 = 48
          · exact .inr ⟨h, by have : ¬ 1 < s.size := fun x => hz ⟨h, x⟩; omega⟩
          · exact .inl (fun e => h (UInt8.toNat_inj.1 e))
        clear hrr HR hc0 hpos hne hem hz
        have HSZ := Lib.hid hsz
        clear hsz
        rcases hD with d | ⟨rfl, d2⟩
        case' inl =>
          have f1 : ((c0.toNat : Int) == 48) = false := beq_eq_false_iff_ne.2 (by omega)
          clear d
        case' inr =>
          have f1 : ¬ (1 : Int) < (s.size : Int) := by omega
          have f2 : (s.size : Int) ≤ 1 := by omega
          clear d2
        all_goals
          go_enter Tryz.func24, Tryz.ntmps24
          go_wp2
          go_loop [3, 4] (fun nv iv => ∃ k : Nat, k ≤ s.size ∧ iv = .int .i64 k ∧ ∃ n : Int, nv = .int .i64 n ∧ 0 ≤ n ∧ n < 10000000 ∧ Hid ((s.data.toList.take k).all isD = true ∧ n = valD 0 (s.data.toList.take k))) (fun _ iv => s.size - (intOf iv).toNat)
          case atStart => exact ⟨0, by omega, rfl, 0, rfl, by omega, by omega, Lib.hid ⟨rfl, rfl⟩⟩
          case round =>
            obtain ⟨k, hk, rfl, n, rfl, hn0, hn1, HA⟩ := hrel
            by_cases hlt : k < s.size
            · have hx : s.data.toList[k]? = some s[k] := by rw [List.getElem?_eq_getElem (by rw [← size_list]; exact hlt)]; rfl
              have hix := sidx s k _ rfl _ hx
              have hsn := all_snoc isD s k hlt
              rw [HA.out.1, Bool.true_and] at hsn
              have hvn : valD 0 (s.data.toList.take (k + 1)) = n * 10 + (s[k].toNat : Int) - 48 := by
                rw [take_byte s k hlt, valD_app, ← HA.out.2]
              have hbad : isD s[k] = false → R = -1 := fun h => by
                rw [h] at hsn
                have := all_of_take hsn
                rw [HRR.out, this]; rfl
              have hgood : isD s[k] = true → (s.data.toList.take (k + 1)).all isD = true ∧ n * 10 + (s[k].toNat : Int) - 48 = valD 0 (s.data.toList.take (k + 1)) := fun h => ⟨by rw [hsn, h], hvn.symm⟩
              have hrange : isD s[k] = true → 0 ≤ n * 10 + (s[k].toNat : Int) - 48 ∧ n * 10 + (s[k].toNat : Int) - 48 < 10000000 := fun h => by
                rw [(hgood h).2]
                exact valD_seven _ (hgood h).1 (by rw [List.length_take]; omega)
              have HB := Lib.hid hbad
              have HG := Lib.hid hgood
              have HN := Lib.hid hrange
              have hok : isD s[k] = (decide (48 ≤ s[k].toNat) && decide (s[k].toNat ≤ 57)) := rfl
              have h0 : 0 ≤ (k : Int) := by omega
              have h1 : (k : Int) < (s.size : Int) := by omega
              clear hx hsn hbad hgood hvn hrange
              generalize s[k] = c at *
              by_cases c1 : c.toNat < 48
              · have g1 : (c.toNat : Int) < 48 := by omega
                have hrr : R = -1 := HB.out (by rw [hok, decide_eq_false (by omega)]; rfl)
                subst hrr
                clear HB HG HN hok HRR HA
                go_wp2
                go_ret
                exact ⟨rfl, rfl⟩
              · by_cases c2 : c.toNat ≤ 57
                · have g1 : (48 : Int) ≤ (c.toNat : Int) := by omega
                  have g2 : (c.toNat : Int) ≤ 57 := by omega
                  have hd : isD c = true := by rw [hok, decide_eq_true (by omega), decide_eq_true c2]; rfl
                  have hnn := HN.out hd
                  have hgg := Lib.hid (HG.out hd)
                  clear HB HG HN hok HA hd
                  go_wp2
                  go_round
                  case rel => exact ⟨k + 1, by omega, by go_num, _, rfl, hnn.1, hnn.2, hgg⟩
                  case measure => simp [intOf]; omega
                · have g1 : (48 : Int) ≤ (c.toNat : Int) := by omega
                  have g2 : (57 : Int) < (c.toNat : Int) := by omega
                  have hrr : R = -1 := HB.out (by rw [hok, decide_eq_false c2, Bool.and_false])
                  subst hrr
                  clear HB HG HN hok HRR HA
                  go_wp2
                  go_ret
                  exact ⟨rfl, rfl⟩
            · have hall := all_full (p := isD) hk hlt
              rw [HA.out.1] at hall
              have htk : s.data.toList.take k = s.data.toList := List.take_of_length_le (by have := HSZ.out; omega)
              have hrr : n = R := by rw [HRR.out, ← hall, if_pos rfl, ← htk]; exact HA.out.2
              subst hrr
              clear HRR HA hall htk
              go_wp2
              go_ret
              exact ⟨rfl, rfl⟩
  · have hl : s.data.toList = [] := by rw [hem] at he; simpa using he
    have hrr : R = -1 := by rw [← HR.out, hl]; rfl
    subst hrr
    clear HR hem hsz hl
    go_enter Tryz.func24, Tryz.ntmps24
    go_wp2
    go_ret
    exact ⟨rfl, rfl⟩
theorem ba_cat (a : List UInt8) (b : ByteArray) : (⟨a.toArray⟩ : ByteArray) ++ b = ⟨(a ++ b.data.toList).toArray⟩ := by
  apply ByteArray.ext
  simp
theorem size_mk (l : List UInt8) : (⟨l.toArray⟩ : ByteArray).size = l.length := by simp [ByteArray.size]
def decS (n : Nat) : ByteArray := ⟨(Lib.decDigits n).toArray⟩
def digB (k : Nat) : UInt8 := UInt8.ofNat (48 + k)
theorem dec_small {n : Nat} (h : n < 10) : Lib.decDigits n = [digB n] := by unfold Lib.decDigits digB; rw [dif_pos h]
theorem dec_big {n : Nat} (h : ¬ n < 10) : Lib.decDigits n = Lib.decDigits (n / 10) ++ [digB (n % 10)] := by rw [Lib.decDigits]; rw [dif_neg h]; rfl
theorem dec_len : ∀ k n : Nat, n < 10 ^ (k + 1) → (Lib.decDigits n).length ≤ k + 1
  | 0, n, h => by rw [dec_small (by omega)]; simp
  | k + 1, n, h => by
    by_cases h1 : n < 10
    · rw [dec_small h1]; simp
    · rw [dec_big h1, List.length_append]
      have := dec_len k (n / 10) (by rw [Nat.div_lt_iff_lt_mul (by decide)]; rw [Nat.pow_succ] at h; exact h)
      simp; omega
theorem cut10 (k : Nat) (h : k < 10) : (⟨#[48, 49, 50, 51, 52, 53, 54, 55, 56, 57]⟩ : ByteArray).extract k (k + 1) = ⟨#[digB k]⟩ := by
  have h2 : ∀ k : Fin 10, (⟨#[48, 49, 50, 51, 52, 53, 54, 55, 56, 57]⟩ : ByteArray).extract k.val (k.val + 1) = ⟨#[digB k.val]⟩ := by decide +kernel
  exact h2 ⟨k, h⟩
set_option maxRecDepth 100000 in
set_option maxHeartbeats 1000000 in
theorem digits_any (n : Nat) : n ≤ 1000000 → ∀ w : World, Calls Tryz.prog 19 #[.int .i64 n] w fun e w' => e = .returned (.string (decS n)) ∧ w = w' := by
  induction n using Nat.strongRecOn with
  | ind n ih =>
    intro hn w
    by_cases h : n < 10
    · have h1 : (n : Int) < 10 := by omega
      have h2 := cut10 n h
      unfold decS
      rw [dec_small h]
      go_enter Tryz.func19, Tryz.ntmps19
      go_wp2
      go_ret
      exact ⟨rfl, rfl⟩
    · have h1 : ¬ (n : Int) < 10 := by omega
      have hI := ih (n / 10) (by omega) (by omega) w
      have hc : ((n / 10 : Nat) : Int) = (n : Int) / 10 := by omega
      rw [hc] at hI
      have h2 := cut10 (n % 10) (by omega)
      have h3 : (n : Int) % 10 + 1 ≤ 10 := by omega
      have h4 : 0 ≤ (n : Int) % 10 := by omega
      have h5 : 0 ≤ (n : Int) % 10 + 1 := by omega
      have hd : decS n = decS (n / 10) ++ ⟨#[digB (n % 10)]⟩ := by
        unfold decS
        rw [dec_big h, ba_cat]
      have h6 : ¬ 9223372036854775807 < (decS (n / 10)).size + 1 := by
        have := dec_len 6 (n / 10) (by omega)
        unfold decS
        rw [size_mk]; omega
      rw [hd]
      generalize decS (n / 10) = ds at *
      clear hd
      go_enter Tryz.func19, Tryz.ntmps19
      go_wp2_with (go_at_call 19; (with_reducible refine hI.mono ?_); rintro e w1 ⟨rfl, rfl⟩)
      go_ret
      exact ⟨rfl, rfl⟩
end Go.Proofs.YtcpkikillmmjcaaGreatDoor.LogC
