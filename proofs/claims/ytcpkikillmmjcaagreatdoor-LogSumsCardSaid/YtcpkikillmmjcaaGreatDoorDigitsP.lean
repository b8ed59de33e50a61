/-
  A number as the document reads it: decimal digits, no needless 0, at most seven. Plain: no program.
  Conditions: none.
-/
import Derived.Test.YtcpkikillmmjcaaGreatDoorSplitJoin
namespace Go.Proofs.YtcpkikillmmjcaaGreatDoor.LogP
open Go.Lib
set_option linter.unusedVariables false
set_option linter.unusedSimpArgs false

def isD (c : UInt8) : Bool := decide (48 ≤ c.toNat) && decide (c.toNat ≤ 57)
/-- The value of digits behind a number. -/
def valD (acc : Int) : List UInt8 → Int
  | [] => acc
  | c :: r => valD (acc * 10 + (c.toNat : Int) - 48) r
/-- The document's number: -1: none. -/
def numD (l : List UInt8) : Int := if l = [] ∨ 7 < l.length ∨ (l.head? = some 48 ∧ 1 < l.length) then -1 else if l.all isD then valD 0 l else -1
theorem valD_app : ∀ (l : List UInt8) (acc : Int) (c : UInt8), valD acc (l ++ [c]) = valD acc l * 10 + (c.toNat : Int) - 48
  | [], acc, c => rfl
  | x :: l, acc, c => by
    show valD _ (l ++ [c]) = valD _ l * 10 + _ - 48
    exact valD_app l _ c
theorem val_digits : ∀ (n : Nat), valD 0 (decDigits n) = n := by
  intro n
  induction n using Nat.strongRecOn with
  | ind n ih =>
    by_cases h : n < 10
    · rw [decDigits, dif_pos h]
      have e : (UInt8.ofNat (48 + n)).toNat = 48 + n := by simp; omega
      simp only [valD, e]
      omega
    · rw [decDigits, dif_neg h, valD_app, ih (n / 10) (by omega)]
      have e : (UInt8.ofNat (48 + n % 10)).toNat = 48 + n % 10 := by simp; omega
      rw [e]
      omega
theorem head_digits : ∀ (n : Nat), 10 ≤ n → (decDigits n).head? ≠ some 48 := by
  intro n
  induction n using Nat.strongRecOn with
  | ind n ih =>
    intro hn
    rw [decDigits, dif_neg (by omega)]
    by_cases h : n / 10 < 10
    · rw [decDigits, dif_pos h]
      simp only [List.singleton_append, List.head?_cons]
      intro e
      have e1 := congrArg UInt8.toNat (Option.some.inj e)
      have e2 : (UInt8.ofNat (48 + n / 10)).toNat = 48 + n / 10 := by simp; omega
      rw [e2] at e1
      simp at e1
      omega
    · rw [List.head?_append]
      have := ih (n / 10) (by omega) (by omega)
      cases hd : (decDigits (n / 10)).head? with
      | none => simp [List.head?_eq_none_iff] at hd; exact absurd hd (digits_ne _)
      | some x => rw [hd] at this; simpa using this
theorem num_itoa (n : Int) (h0 : 0 ≤ n) (h1 : n ≤ 1000000) : numD (itoa n) = n := by
  obtain ⟨m, rfl⟩ := Int.eq_ofNat_of_zero_le h0
  have e : itoa (m : Int) = decDigits m := by simp [itoa]
  rw [e]
  have hl := digits_len 6 m (by omega)
  unfold numD
  have hall : (decDigits m).all isD = true := by
    rw [List.all_eq_true]
    intro c hc
    have := digits_digit m c hc
    simp [isD, this]
  rw [if_neg, if_pos hall, val_digits]
  rintro (h | h | ⟨h, h2⟩)
  · exact digits_ne m h
  · omega
  · by_cases hm : 10 ≤ m
    · exact head_digits m hm h
    · rw [decDigits, dif_pos (by omega)] at h2
      simp at h2
/-- Digits that spell a number are its digits. -/
theorem digits_of : ∀ (k : Nat) (l : List UInt8), l.length = k → l ≠ [] → l.all isD = true → (1 < l.length → l.head? ≠ some 48) → ∃ n : Nat, valD 0 l = n ∧ l = decDigits n := by
  intro k
  induction k with
  | zero => intro l hl hne; exact absurd (List.eq_nil_of_length_eq_zero hl) hne
  | succ k ih =>
    intro l hl hne hall hh
    obtain ⟨p, c, rfl⟩ : ∃ p c, l = p ++ [c] := ⟨l.dropLast, l.getLast hne, (List.dropLast_concat_getLast hne).symm⟩
    rw [List.all_append, Bool.and_eq_true] at hall
    obtain ⟨hp, hc⟩ := hall
    have hc2 : 48 ≤ c.toNat ∧ c.toNat ≤ 57 := by simpa [isD] using hc
    by_cases hpe : p = []
    · subst hpe
      refine ⟨c.toNat - 48, by simp only [List.nil_append, valD]; omega, ?_⟩
      rw [decDigits, dif_pos (by omega)]
      have : 48 + (c.toNat - 48) = c.toNat := by omega
      rw [this]
      simp
    · have hlp : p.length = k := by simpa using hl
      have hhp : p.head? ≠ some 48 := by
        have h2 : (p ++ [c]).head? = p.head? := by
          cases p with
          | nil => exact absurd rfl hpe
          | cons x r => rfl
        rw [← h2]
        exact hh (by
          have : 0 < p.length := List.length_pos_iff.2 hpe
          simp; omega)
      obtain ⟨n, hn, hpd⟩ := ih p hlp hpe hp (fun _ => hhp)
      have hn0 : 0 < n := by
        rcases Nat.eq_zero_or_pos n with h | h
        · subst h
          rw [decDigits, dif_pos (by decide)] at hpd
          rw [hpd] at hhp
          exact absurd rfl hhp
        · exact h
      refine ⟨n * 10 + (c.toNat - 48), by rw [valD_app, hn]; omega, ?_⟩
      rw [decDigits, dif_neg (by omega), show (n * 10 + (c.toNat - 48)) / 10 = n from by omega, show (n * 10 + (c.toNat - 48)) % 10 = c.toNat - 48 from by omega, ← hpd]
      have : 48 + (c.toNat - 48) = c.toNat := by omega
      rw [this]
      simp
theorem itoa_num (l : List UInt8) (h : 0 ≤ numD l) : l = itoa (numD l) := by
  unfold numD at h ⊢
  by_cases h1 : l = [] ∨ 7 < l.length ∨ (l.head? = some 48 ∧ 1 < l.length)
  · rw [if_pos h1] at h; omega
  · rw [if_neg h1] at h ⊢
    by_cases h2 : l.all isD = true
    · rw [if_pos h2] at h ⊢
      obtain ⟨n, hn, hd⟩ := digits_of l.length l rfl (fun e => h1 (.inl e)) h2 (fun hl e => h1 (.inr (.inr ⟨e, hl⟩)))
      rw [hn]
      have e : itoa (n : Int) = decDigits n := by simp [itoa]
      rw [e]; exact hd
    · rw [if_neg h2] at h; omega
end Go.Proofs.YtcpkikillmmjcaaGreatDoor.LogP
