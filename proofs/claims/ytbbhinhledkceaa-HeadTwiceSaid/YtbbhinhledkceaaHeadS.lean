/-
  Package head's texts in plain Lean: what is told, and what is read of it.
  Conditions: none.
-/
import Derived.Test.YtbbhinhledkceaaCodeDec
import Derived.Test.YtbbhinhledkceaaWireGet
namespace Go.Proofs.Ytbbhinhledkceaa.HeadC
open CodeC WireC BA
set_option linter.unusedVariables false
set_option linter.unusedSimpArgs false

/-- A text as it is told. -/
def textL (s : List UInt8) : List Int := if s.length ≤ (codeL s).length then putL (s.length : Nat) (7 : Nat) 0 ++ intsU s else putL ((codeL s).length : Nat) (7 : Nat) 128 ++ codeL s
/-- Bytes as letters. -/
def lett (l : List Int) : List UInt8 := l.map fun z => UInt8.ofNat z.toNat
theorem lett_ints (s : List UInt8) : lett (intsU s) = s := by
  unfold lett intsU
  rw [List.map_map]
  conv => rhs; rw [← List.map_id s]
  apply List.map_congr_left
  intro c _
  simp
/-- What stands behind the number. -/
def rawT (b : List Int) : Option (List UInt8) :=
  if 128 ≤ b.getD 0 0 then decS ((b.drop (getS b 7).2.1).take (getS b 7).1.toNat) (8 * ((b.drop (getS b 7).2.1).take (getS b 7).1.toNat).length + 1) 0 []
  else some (lett ((b.drop (getS b 7).2.1).take (getS b 7).1.toNat))
/-- The text that bytes begin with: how many bytes, the fault. -/
def rtS (b : List Int) : List UInt8 × Nat × Nat :=
  if (getS b 7).2.2 ≠ 0 then ([], 0, (getS b 7).2.2)
  else if 400 < (getS b 7).1 then ([], 0, 4)
  else if (b.length : Int) - (getS b 7).2.1 < (getS b 7).1 then ([], 0, 8)
  else match rawT b with
    | none => ([], 0, 2)
    | some s => if 400 < s.length then ([], 0, 4) else if textL s ≠ b.take ((getS b 7).2.1 + (getS b 7).1.toNat) then ([], 0, 2) else (s, (getS b 7).2.1 + (getS b 7).1.toNat, 0)
theorem put_head (n first : Int) (h0 : 0 ≤ n) (h1 : n ≤ 400) : (putL n (7 : Nat) first).getD 0 0 = first + (if n < 127 then n else 127) := by
  have hm : mask ((7 : Nat) : Int) = 127 := rfl
  unfold putL
  rw [hm]
  by_cases h : n < 127
  · rw [if_pos h, if_pos h]; rfl
  · rw [if_neg h, if_neg h]; rfl
theorem put_ne (n first : Int) : putL n (7 : Nat) first ≠ [] := by
  unfold putL
  split <;> simp
theorem getD_app {a b : List Int} (h : a ≠ []) : (a ++ b).getD 0 0 = a.getD 0 0 := by
  cases a with
  | nil => exact absurd rfl h
  | cons x a => rfl
theorem textL_len (s : List UInt8) (h : s.length ≤ 400) : (textL s).length ≤ 406 := by
  unfold textL
  split
  · have := putL_len (s.length : Nat) (7 : Nat) 0
    rw [List.length_append, intsU_len]; omega
  · have := putL_len ((codeL s).length : Nat) (7 : Nat) 128
    rw [List.length_append]; omega
/-- What was told is read as it was. -/
theorem rt_told (s : List UInt8) (rest : List Int) (hs : s.length ≤ 400) : rtS (textL s ++ rest) = (s, (textL s).length, 0) := by
  by_cases hc : s.length ≤ (codeL s).length
  · have ht : textL s = putL (s.length : Nat) (7 : Nat) 0 ++ intsU s := if_pos hc
    have hg : getS (textL s ++ rest) 7 = (((s.length : Nat) : Int), (putL (s.length : Nat) (7 : Nat) 0).length, 0) := by
      rw [ht, List.append_assoc]
      exact get_told (p := 7) (by decide) (by decide) (by omega) (by omega) (by decide)
    have hlen : (textL s ++ rest).length = (putL (s.length : Nat) (7 : Nat) 0).length + (s.length + rest.length) := by rw [ht, List.length_append, List.length_append, intsU_len]; omega
    have hd : ((textL s ++ rest).drop (putL (s.length : Nat) (7 : Nat) 0).length).take s.length = intsU s := by
      rw [ht, List.append_assoc, List.drop_left, List.take_left' (intsU_len s)]
    have hraw : rawT (textL s ++ rest) = some s := by
      unfold rawT
      rw [hg]
      simp only [Int.toNat_natCast]
      rw [hd, if_neg, lett_ints]
      have h0 : (textL s ++ rest).getD 0 0 = 0 + (if ((s.length : Nat) : Int) < 127 then ((s.length : Nat) : Int) else 127) := by
        rw [ht, List.append_assoc, getD_app (put_ne _ _), put_head _ _ (by omega) (by omega)]
      rw [h0]
      split <;> omega
    have htk : (textL s ++ rest).take ((putL (s.length : Nat) (7 : Nat) 0).length + s.length) = textL s := by
      rw [List.take_left']
      rw [ht, List.length_append, intsU_len]
    unfold rtS
    rw [hraw, hg]
    simp only [Int.toNat_natCast]
    rw [if_neg (by simp), if_neg (by omega), if_neg (by rw [hlen]; omega), if_neg (by omega), htk, if_neg (by simp)]
    simp only [Prod.mk.injEq, true_and, and_true]
    rw [ht, List.length_append, intsU_len]
  · have ht : textL s = putL ((codeL s).length : Nat) (7 : Nat) 128 ++ codeL s := if_neg hc
    have hg : getS (textL s ++ rest) 7 = ((((codeL s).length : Nat) : Int), (putL ((codeL s).length : Nat) (7 : Nat) 128).length, 0) := by
      rw [ht, List.append_assoc]
      exact get_told (p := 7) (by decide) (by decide) (by omega) (by omega) (by decide)
    have hlen : (textL s ++ rest).length = (putL ((codeL s).length : Nat) (7 : Nat) 128).length + ((codeL s).length + rest.length) := by rw [ht]; simp
    have hd : ((textL s ++ rest).drop (putL ((codeL s).length : Nat) (7 : Nat) 128).length).take (codeL s).length = codeL s := by
      rw [ht, List.append_assoc, List.drop_left, List.take_left' rfl]
    have hraw : rawT (textL s ++ rest) = some s := by
      unfold rawT
      rw [hg]
      simp only [Int.toNat_natCast]
      rw [hd, if_pos, dec_code]
      have h0 : (textL s ++ rest).getD 0 0 = 128 + (if (((codeL s).length : Nat) : Int) < 127 then (((codeL s).length : Nat) : Int) else 127) := by
        rw [ht, List.append_assoc, getD_app (put_ne _ _), put_head _ _ (by omega) (by omega)]
      rw [h0]
      split <;> omega
    have htk : (textL s ++ rest).take ((putL ((codeL s).length : Nat) (7 : Nat) 128).length + (codeL s).length) = textL s := by
      rw [List.take_left']
      rw [ht, List.length_append]
    unfold rtS
    rw [hraw, hg]
    simp only [Int.toNat_natCast]
    rw [if_neg (by simp), if_neg (by omega), if_neg (by rw [hlen]; omega), if_neg (by omega), htk, if_neg (by simp)]
    simp only [Prod.mk.injEq, true_and, and_true]
    rw [ht, List.length_append]
end Go.Proofs.Ytbbhinhledkceaa.HeadC
