/-
  A text as its lines, in plain Lean.
  Conditions: none.
-/
import Derived.Lib.Bytealg
import Derived.Lib.IndexLaws
namespace Go.Proofs.YteadmakhcpjpnaaDoor.LinesP
open Go
set_option linter.unusedVariables false

/-- The lines of a text, each with its end. -/
def linesS : List UInt8 → List (List UInt8)
  | [] => []
  | c :: r => if c = 10 then [10] :: linesS r else match linesS r with
    | [] => [[c]]
    | l :: ls => (c :: l) :: ls
/-- The first line, and what is left. -/
def cutS (r : List UInt8) : List UInt8 × List UInt8 :=
  if 0 ≤ Lib.indexByte r 10 then (r.take ((Lib.indexByte r 10).toNat + 1), r.drop ((Lib.indexByte r 10).toNat + 1)) else (r, [])
theorem lines_none : ∀ r : List UInt8, r ≠ [] → Lib.indexByte r 10 = -1 → linesS r = [r]
  | [], h, _ => absurd rfl h
  | c :: r, _, hi => by
    unfold Lib.indexByte at hi
    by_cases hc : c = 10
    · subst hc; simp at hi
    · have hb : (c == 10) = false := beq_eq_false_iff_ne.2 hc
      rw [if_neg (by simp [hb])] at hi
      have h2 : Lib.indexByte r 10 = -1 := by
        by_cases h : Lib.indexByte r 10 = -1
        · exact h
        · have hg := Lib.indexByte_ge r 10
          rw [if_neg (by simpa using h)] at hi
          omega
      unfold linesS
      rw [if_neg hc]
      cases r with
      | nil => rfl
      | cons d r => rw [lines_none (d :: r) (by simp) h2]
theorem lines_cut : ∀ r : List UInt8, r ≠ [] → linesS r = (cutS r).1 :: linesS (cutS r).2
  | [], h => absurd rfl h
  | c :: r, h => by
    by_cases hc : c = 10
    · subst hc
      have hi : Lib.indexByte (10 :: r) 10 = 0 := by simp [Lib.indexByte]
      unfold cutS
      rw [hi, if_pos (by omega)]
      simp [linesS]
    · have hb : (c == 10) = false := beq_eq_false_iff_ne.2 hc
      by_cases h2 : Lib.indexByte r 10 = -1
      · have hi : Lib.indexByte (c :: r) 10 = -1 := by simp [Lib.indexByte, hb, h2]
        rw [lines_none (c :: r) h hi]
        unfold cutS
        rw [hi, if_neg (by omega)]
        simp [linesS]
      · have hg := Lib.indexByte_ge r 10
        have hi : Lib.indexByte (c :: r) 10 = Lib.indexByte r 10 + 1 := by simp [Lib.indexByte, hb, h2]
        have hne : r ≠ [] := by rintro rfl; exact h2 rfl
        obtain ⟨k, hk⟩ : ∃ k : Nat, Lib.indexByte r 10 = (k : Int) := ⟨(Lib.indexByte r 10).toNat, by omega⟩
        have ih := lines_cut r hne
        have e1 : cutS r = (r.take (k + 1), r.drop (k + 1)) := by unfold cutS; rw [hk, if_pos (by omega)]; rfl
        have e2 : cutS (c :: r) = (c :: r.take (k + 1), r.drop (k + 1)) := by
          unfold cutS
          rw [hi, hk, if_pos (by omega)]
          have : ((k : Int) + 1).toNat = k + 1 := by omega
          rw [this]; rfl
        rw [e1] at ih
        rw [e2]
        simp only [linesS]
        rw [if_neg hc, ih]
theorem cut_len (r : List UInt8) (h : r ≠ []) : (cutS r).1.length ≤ r.length ∧ (cutS r).2.length < r.length := by
  have hp : 0 < r.length := List.length_pos_iff.2 h
  unfold cutS
  split
  · simp only [List.length_take, List.length_drop]; omega
  · simp only [List.length_nil]; omega
end Go.Proofs.YteadmakhcpjpnaaDoor.LinesP
