/-
  A text cut at line ends, piece by piece, is read as route.Parse reads its lines: in plain Lean.
  Conditions: none.
-/
import Derived.Test.YteadmakhcpjpnaaDoorParseW
import Derived.Test.YteadmakhcpjpnaaDoorCutC
namespace Go.Proofs.YteadmakhcpjpnaaDoor.RouteC
open Go LinesP LineC LogP CutC
set_option linter.unusedVariables false
set_option linter.unusedSimpArgs false

theorem lines_end : ∀ (p r : List UInt8), (10 : UInt8) ∉ p → linesS (p ++ 10 :: r) = (p ++ [10]) :: linesS r
  | [], r, _ => by simp [linesS]
  | c :: p, r, h => by
    have hc : c ≠ 10 := fun e => h (by rw [e]; exact List.mem_cons_self)
    have ih := lines_end p r (fun e => h (List.mem_cons_of_mem _ e))
    simp only [List.cons_append, linesS]
    rw [if_neg hc, ih]
theorem lines_rest : ∀ (q : List UInt8), (10 : UInt8) ∉ q → linesS q = if q = [] then [] else [q]
  | [], _ => rfl
  | c :: q, h => by
    have hc : c ≠ 10 := fun e => h (by rw [e]; exact List.mem_cons_self)
    have ih := lines_rest q (fun e => h (List.mem_cons_of_mem _ e))
    simp only [linesS]
    rw [if_neg hc, ih]
    by_cases hq : q = []
    · subst hq; rfl
    · rw [if_neg hq, if_neg (by simp)]
theorem lines_pieces : ∀ (ps : List (List UInt8)) (q : List UInt8), (∀ p ∈ ps, (10 : UInt8) ∉ p) → (10 : UInt8) ∉ q → linesS ((ps.map (· ++ [10])).flatten ++ q) = ps.map (· ++ [10]) ++ (if q = [] then [] else [q])
  | [], q, _, hq => by simpa using lines_rest q hq
  | p :: ps, q, hp, hq => by
    have ih := lines_pieces ps q (fun x hx => hp x (List.mem_cons_of_mem _ hx)) hq
    rw [List.map_cons, List.flatten_cons, List.append_assoc, List.append_assoc, show p ++ ([10] ++ ((ps.map (· ++ [10])).flatten ++ q)) = p ++ 10 :: ((ps.map (· ++ [10])).flatten ++ q) from rfl, lines_end p _ (hp p List.mem_cons_self), ih]
    rfl
theorem body_end (p : List UInt8) (h : (10 : UInt8) ∉ p) : bodyE (p ++ [10]) = (p, true) := by
  unfold bodyE Lib.trimSuffix
  have hs : Lib.hasSuffix (p ++ [10]) [10] = true := by unfold Lib.hasSuffix; exact List.isSuffixOf_iff_suffix.2 ⟨p, rfl⟩
  rw [hs]
  simp
theorem body_rest (q : List UInt8) (h : (10 : UInt8) ∉ q) : (bodyE q).2 = false := by
  unfold bodyE
  simp only
  by_cases hs : Lib.hasSuffix q [10] = true
  · unfold Lib.hasSuffix at hs
    obtain ⟨t, ht⟩ := List.isSuffixOf_iff_suffix.1 hs
    exact absurd (by rw [← ht]; simp) h
  · simpa using hs
/-- Pieces that have an end, one behind the other. -/
def stepsU : List RT → List ByteArray → Int × List RT
  | l, [] => (0, l)
  | l, p :: r => if (stepB l (wordsOf p) true).1 = 0 then stepsU (stepB l (wordsOf p) true).2 r else stepB l (wordsOf p) true
theorem stepP_end (l : List RT) (p : ByteArray) (h : (10 : UInt8) ∉ p.data.toList) : stepP l (p.data.toList ++ [10]) = stepB l (wordsOf p) true := by
  unfold stepP stepB
  rw [body_end _ h, words_data]
theorem run_steps : ∀ (ps : List ByteArray) (l : List RT), (∀ p ∈ ps, (10 : UInt8) ∉ p.data.toList) → runP l (ps.map (fun p => p.data.toList ++ [10])) = stepsU l ps
  | [], l, _ => rfl
  | p :: ps, l, h => by
    simp only [List.map_cons, runP, stepsU]
    rw [stepP_end l p (h p List.mem_cons_self)]
    by_cases h0 : (stepB l (wordsOf p) true).1 = 0
    · rw [if_pos h0, if_pos h0, run_steps ps _ (fun x hx => h x (List.mem_cons_of_mem _ hx))]
    · rw [if_neg h0, if_neg h0]
theorem stepsU_snoc : ∀ (ps : List ByteArray) (l : List RT) (p : ByteArray), (stepsU l ps).1 = 0 → stepsU l (ps ++ [p]) = stepB (stepsU l ps).2 (wordsOf p) true
  | [], l, p, _ => by
    simp only [List.nil_append, stepsU]
    by_cases h : (stepB l (wordsOf p) true).1 = 0
    · rw [if_pos h]; exact Prod.ext h.symm rfl
    · rw [if_neg h]
  | x :: ps, l, p, h => by
    simp only [stepsU, List.cons_append] at h ⊢
    by_cases hx : (stepB l (wordsOf x) true).1 = 0
    · rw [if_pos hx] at h ⊢
      rw [if_pos hx]
      exact stepsU_snoc ps _ p h
    · rw [if_neg hx] at h
      exact absurd h hx
theorem stepsU_stop : ∀ (ps : List ByteArray) (l : List RT) (r : List ByteArray), (stepsU l ps).1 ≠ 0 → stepsU l (ps ++ r) = stepsU l ps
  | [], l, r, h => absurd rfl h
  | x :: ps, l, r, h => by
    simp only [stepsU, List.cons_append] at h ⊢
    by_cases hx : (stepB l (wordsOf x) true).1 = 0
    · rw [if_pos hx] at h ⊢
      rw [if_pos hx]
      exact stepsU_stop ps _ r h
    · rw [if_neg hx, if_neg hx]
theorem run_append : ∀ (a : List (List UInt8)) (l : List RT) (b : List (List UInt8)), runP l (a ++ b) = if (runP l a).1 = 0 then runP (runP l a).2 b else runP l a
  | [], l, b => by simp [runP]
  | x :: a, l, b => by
    by_cases hx : (stepP l x).1 = 0
    · have e1 : ∀ r, runP l (x :: r) = runP (stepP l x).2 r := fun r => by simp only [runP]; rw [if_pos hx]
      rw [List.cons_append, e1, e1]; exact run_append a _ b
    · have e1 : ∀ r, runP l (x :: r) = stepP l x := fun r => by simp only [runP]; rw [if_neg hx]
      rw [List.cons_append, e1, e1, if_neg hx]
theorem words_ne (s : ByteArray) : wordsC 10 s ≠ [] := by
  intro h
  have h1 := wordsC_data 10 s
  rw [h] at h1
  have h2 := (LogP.join_split 10 s.data.toList.length s.data.toList (Nat.le_refl _)).1
  rw [← h1] at h2
  have h3 : s.data.toList = [] := by rw [← h2]; rfl
  rw [h3] at h1
  have := LogP.split_last [] 10 (by simp)
  rw [this] at h1
  cases h1
theorem words_no (s : ByteArray) : ∀ p ∈ wordsC 10 s, (10 : UInt8) ∉ p.data.toList := by
  intro p hp
  have h2 := (LogP.join_split 10 s.data.toList.length s.data.toList (Nat.le_refl _)).2
  rw [← wordsC_data] at h2
  exact h2 _ (List.mem_map.2 ⟨p, hp, rfl⟩)
theorem flat_map (c : UInt8) (L : List ByteArray) : flatB c L = ((L.map (·.data.toList)).map (· ++ [c])).flatten := by simp [flatB, List.map_map]; rfl
/-- The text's lines, by its pieces. -/
theorem lines_words (s : ByteArray) (ps : List ByteArray) (q : ByteArray) (h : wordsC 10 s = ps ++ [q]) : linesS s.data.toList = ps.map (fun p => p.data.toList ++ [10]) ++ (if q.data.toList = [] then [] else [q.data.toList]) := by
  have h2 := (LogP.join_split 10 s.data.toList.length s.data.toList (Nat.le_refl _)).1
  rw [← wordsC_data, h, join_flat] at h2
  have hno := words_no s
  rw [h] at hno
  have h3 := lines_pieces (ps.map (·.data.toList)) q.data.toList (fun p hp => by obtain ⟨x, hx, rfl⟩ := List.mem_map.1 hp; exact hno x (List.mem_append_left _ hx)) (hno q (List.mem_append_right _ List.mem_cons_self))
  rw [← flat_map, h2, List.map_map] at h3
  exact h3
/-- What the reference answers. -/
theorem parse_words (s : ByteArray) (ps : List ByteArray) (q : ByteArray) (h : wordsC 10 s = ps ++ [q]) :
    runP [] (linesS s.data.toList) = if (stepsU [] ps).1 = 0 then (if q.data.toList = [] then (0, (stepsU [] ps).2) else (2, (stepsU [] ps).2)) else stepsU [] ps := by
  have hno := words_no s
  rw [h] at hno
  rw [lines_words s ps q h, run_append, run_steps ps [] (fun p hp => hno p (List.mem_append_left _ hp))]
  by_cases h0 : (stepsU [] ps).1 = 0
  · rw [if_pos h0, if_pos h0]
    by_cases hq : q.data.toList = []
    · rw [if_pos hq, if_pos hq]; rfl
    · rw [if_neg hq, if_neg hq]
      have hb := body_rest q.data.toList (hno q (List.mem_append_right _ List.mem_cons_self))
      have hs : stepP (stepsU [] ps).2 q.data.toList = (2, (stepsU [] ps).2) := by
        unfold stepP stepW
        rw [if_pos (.inl hb)]
      simp only [runP]
      rw [hs, if_neg (by simp)]
  · rw [if_neg h0, if_neg h0]
end Go.Proofs.YteadmakhcpjpnaaDoor.RouteC
