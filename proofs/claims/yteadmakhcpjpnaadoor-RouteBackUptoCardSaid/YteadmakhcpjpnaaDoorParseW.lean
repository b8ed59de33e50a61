/-
  What route.Parse calls in a round: strings.CutSuffix at a line's end, strings.Split at blanks; a line's step, by the words as texts.
  Conditions: the line's length; the cell of bytealg.MaxLen.
-/
import Derived.Test.YteadmakhcpjpnaaDoorParseP
import Derived.Test.YteadmakhcpjpnaaDoorLogP
import Derived.Test.YteadmakhcpjpnaaDoorShelf
import Derived.Below
import Derived.Lib.Hide
namespace Go.Proofs.YteadmakhcpjpnaaDoor.RouteC
open Go Go.RowKit Go.Shelf Go.Lib LogP LineC LinesP
set_option linter.unusedVariables false
set_option linter.unusedSimpArgs false

theorem split_words (s : ByteArray) (W : World) (m : Int) (hm : W.cell? ⟨1, 0, none⟩ = some (.int .i64 m)) (hs : s.size < 4294967281) :
    Calls Tryd.prog 13 #[.string s, .string ⟨#[32]⟩] W fun e w' => e = .returned (.slice (some ⟨W.heap.size, 0, none⟩) (wordsOf s).length (wordsOf s).length) ∧ w' = W.alloc (.cells ((wordsOf s).map Value.string).toArray 9) := by
  refine (Tryd.strings_Split s sepB m W hs hm (by decide)).mono ?_
  rintro e w' ⟨rfl, rfl⟩
  exact ⟨by rw [words_len], rfl⟩
/-- A line's body as a text; whether it has an end. -/
def bodyB (s : ByteArray) : ByteArray := ⟨(trimSuffix s.data.toList [10]).toArray⟩
def endB (s : ByteArray) : Bool := hasSuffix s.data.toList [10]
theorem cutsuffix_any (s : ByteArray) (hs : s.size ≤ 9223372036854775807) (W : World) :
    Calls Tryd.prog 12 #[.string s, .string ⟨#[10]⟩] W fun e w' => e = .returned (.tuple #[.string (bodyB s), .bool (endB s)]) ∧ W = w' := by
  refine (Tryd.strings_CutSuffix s ⟨#[10]⟩ W hs).mono ?_
  rintro e w' ⟨rfl, rfl⟩
  exact ⟨rfl, rfl⟩
theorem body_le (s : ByteArray) : (bodyB s).size ≤ s.size := by
  show (trimSuffix s.data.toList [10]).toArray.size ≤ s.data.size
  have h : (trimSuffix s.data.toList [10]).length ≤ s.data.toList.length := by
    unfold trimSuffix
    split
    · exact List.length_take_le' _ _
    · exact Nat.le_refl _
  simpa using h
/-- A line more, by its words as texts. -/
def stepB (l : List RT) (w : List ByteArray) (ended : Bool) : Int × List RT := stepW l (w.map (·.data.toList)) ended
theorem stepP_eq (l : List RT) (s : ByteArray) : stepP l s.data.toList = stepB l (wordsOf (bodyB s)) (endB s) := by
  unfold stepP stepB bodyE
  rw [words_data]
  rfl
theorem step_short {l : List RT} {w : List ByteArray} {ended : Bool} (h : ended = false ∨ w.length ≠ 3) : stepB l w ended = (2, l) := by
  unfold stepB stepW; rw [if_pos (by rw [List.length_map]; exact h)]
theorem step_full {l : List RT} {a b c : ByteArray} (hl : l.length = 20) : stepB l [a, b, c] true = (4, l) := by
  unfold stepB stepW; rw [if_neg (by simp), if_pos hl]
theorem step_none {l : List RT} {a b c : ByteArray} (hl : l.length ≠ 20) (ha : a.data.toList = []) : stepB l [a, b, c] true = (2, l) := by
  unfold stepB stepW; rw [if_neg (by simp), if_neg hl, if_pos (by simpa using ha)]
theorem toBA_eq (a : ByteArray) : toBA a.data.toList = a := rfl
/-- The route of three words, as texts. -/
def routeB (a b c : ByteArray) : RT := ⟨if a.data.toList = [42] then ⟨#[]⟩ else a, b, c⟩
theorem step_more {l : List RT} {a b c : ByteArray} (hl : l.length ≠ 20) (ha : a.data.toList ≠ []) :
    stepB l [a, b, c] true = (routeE (l ++ [routeB a b c]) l.length (routeB a b c), if routeE (l ++ [routeB a b c]) l.length (routeB a b c) = 0 then l ++ [routeB a b c] else l) := by
  unfold stepB stepW; rw [if_neg (by simp), if_neg hl, if_neg (by simpa using ha)]; rfl
end Go.Proofs.YteadmakhcpjpnaaDoor.RouteC
