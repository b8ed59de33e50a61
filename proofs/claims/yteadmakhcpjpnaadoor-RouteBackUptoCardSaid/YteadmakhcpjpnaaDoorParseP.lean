/-
  What routes a text is read as, or which line is wrong, and how: in plain Lean.
  Conditions: none.
-/
import Derived.Test.YteadmakhcpjpnaaDoorRoutes
import Derived.Test.YteadmakhcpjpnaaDoorLinesP
import Derived.Test.YteadmakhcpjpnaaDoorSplitJoin
namespace Go.Proofs.YteadmakhcpjpnaaDoor.RouteC
open Go LinesP LineC
set_option linter.unusedVariables false
set_option linter.unusedSimpArgs false

def toBA (l : List UInt8) : ByteArray := ⟨l.toArray⟩
/-- A line's body, and whether it has an end. -/
def bodyE (s : List UInt8) : List UInt8 × Bool := (Lib.trimSuffix s [10], Lib.hasSuffix s [10])
/-- The route of three words. -/
def routeW (a b c : List UInt8) : RT := ⟨if a = [42] then ⟨#[]⟩ else toBA a, toBA b, toBA c⟩
/-- A line more: the fault, or the routes with it. -/
def stepW (l : List RT) (w : List (List UInt8)) (ended : Bool) : Int × List RT :=
  if ended = false ∨ w.length ≠ 3 then (2, l)
  else if l.length = 20 then (4, l)
  else if w.getD 0 [] = [] then (2, l)
  else
    let r := routeW (w.getD 0 []) (w.getD 1 []) (w.getD 2 [])
    (routeE (l ++ [r]) l.length r, if routeE (l ++ [r]) l.length r = 0 then l ++ [r] else l)
def stepP (l : List RT) (s : List UInt8) : Int × List RT := stepW l (Lib.split (bodyE s).1 [32]) (bodyE s).2
/-- Lines, one behind the other: the fault, and the routes ahead of it. -/
def runP : List RT → List (List UInt8) → Int × List RT
  | l, [] => (0, l)
  | l, s :: r => if (stepP l s).1 = 0 then runP (stepP l s).2 r else stepP l s
theorem step_keep (l : List RT) (s : List UInt8) (h : (stepP l s).1 ≠ 0) : (stepP l s).2 = l := by
  unfold stepP stepW at h ⊢
  split
  · rfl
  · split
    · rfl
    · split
      · rfl
      · rename_i h1 h2 h3
        rw [if_neg h1, if_neg h2, if_neg h3] at h
        simp only at h ⊢
        rw [if_neg h]
theorem run_snoc : ∀ (p : List (List UInt8)) (l : List RT) (s : List UInt8), (runP l p).1 = 0 → runP l (p ++ [s]) = stepP (runP l p).2 s
  | [], l, s, _ => by
    simp only [List.nil_append, runP]
    by_cases h : (stepP l s).1 = 0
    · rw [if_pos h]; exact Prod.ext h.symm rfl
    · rw [if_neg h]
  | x :: p, l, s, h => by
    simp only [runP, List.cons_append] at h ⊢
    by_cases hx : (stepP l x).1 = 0
    · rw [if_pos hx] at h ⊢
      rw [if_pos hx]
      exact run_snoc p _ s h
    · rw [if_neg hx] at h
      exact absurd h hx
theorem run_stop : ∀ (p : List (List UInt8)) (l : List RT) (r : List (List UInt8)), (runP l p).1 ≠ 0 → runP l (p ++ r) = runP l p
  | [], l, r, h => absurd rfl h
  | x :: p, l, r, h => by
    simp only [runP, List.cons_append] at h ⊢
    by_cases hx : (stepP l x).1 = 0
    · rw [if_pos hx] at h ⊢
      rw [if_pos hx]
      exact run_stop p _ r h
    · rw [if_neg hx, if_neg hx]
/-- What route.Parse answers. -/
def parseP (t : List UInt8) : List RT × Int × Int :=
  let q := runP [] (linesS t)
  if q.1 = 0 then (q.2, 0, 0) else ([], (q.2.length : Int), q.1)
end Go.Proofs.YteadmakhcpjpnaaDoor.RouteC
