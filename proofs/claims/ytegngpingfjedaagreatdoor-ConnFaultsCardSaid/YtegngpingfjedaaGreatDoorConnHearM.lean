/-
  What frame.Check says of any frame, in plain Lean; and frame.sizes. frame.Check of any frame but one of settings, exactly. frame.Check of settings, exactly; of any frame. fail: what is wrong for all is told and said, and nothing is heard any more. hear of a frame that is wrong, or that comes ahead of Set.
  Conditions: as each theorem says.
-/
import Derived.Test.YtegngpingfjedaaGreatDoorConnCheck
import Derived.Test.YtegngpingfjedaaGreatDoorBits
import Derived.Test.YtegngpingfjedaaGreatDoorConnWord
import Derived.Test.YtegngpingfjedaaGreatDoorConnSet
import Derived.Test.YtegngpingfjedaaGreatDoorFramesArg
import Derived.Test.YtegngpingfjedaaGreatDoorRound
import Derived.Test.YtegngpingfjedaaGreatDoorConnHear
import Derived.Test.YtegngpingfjedaaGreatDoorConnNew
import Derived.Test.YtegngpingfjedaaGreatDoorConnEvent

/- What frame.Check says of any frame, in plain Lean; and frame.sizes. -/
namespace Go.Proofs.YtegngpingfjedaaGreatDoor.ConnS
open Go.RowKit ModL ConnR BA WireBig SlicesB FrameC
set_option linter.unusedVariables false
set_option linter.unusedSimpArgs false

/-- Whether a frame has as many bytes as it should. -/
def sizesB (k fl : Int) (n : Nat) : Bool :=
  if k = 3 ∨ k = 7 then decide (n = 4) else if k = 4 then decide (n % 6 = 0) && (decide (n = 0) || decide (fl % 2 = 0)) else if k = 5 then decide (n = 8) else if k = 6 then decide (8 ≤ n) else true
def wordL (l : List Int) : Int := l.getD 0 0 * 16777216 + l.getD 1 0 * 65536 + l.getD 2 0 * 256 + l.getD 3 0
/-- What is wrong with the k-th setting. -/
def setC (l : List Int) (k : Nat) : Int :=
  if l.getD (6 * k) 0 * 256 + l.getD (6 * k + 1) 0 = 4 ∧ 2147483647 < wordL (l.drop (6 * k + 2)) then 3 else if l.getD (6 * k) 0 * 256 + l.getD (6 * k + 1) 0 = 5 ∧ wordL (l.drop (6 * k + 2)) < 1024 then 1 else 0
def firstC : List Int → Int
  | [] => 0
  | x :: r => if x = 0 then firstC r else x
def setsS (l : List Int) : Int := firstC ((List.range (l.length / 6)).map (setC l))
def checkS (f : Fr) : Int :=
  if (f.kind = 0 ∨ f.kind = 1 ∨ f.kind = 2 ∨ f.kind = 3) ∧ f.stream = 0 then 1 else if (f.kind = 4 ∨ f.kind = 5 ∨ f.kind = 6) ∧ ¬ f.stream = 0 then 1 else if sizesB f.kind f.flags f.body.length = false then 6
  else if f.kind = 7 then (if wordL f.body = 0 ∨ 2147483647 < wordL f.body then 1 else 0) else if f.kind = 4 then setsS f.body else 0
theorem setC_bd (l : List Int) (k : Nat) : 0 ≤ setC l k ∧ setC l k ≤ 6 := by
  unfold setC; split
  · omega
  · split <;> omega
theorem firstC_bd : ∀ (l : List Int), (∀ x ∈ l, 0 ≤ x ∧ x ≤ 6) → 0 ≤ firstC l ∧ firstC l ≤ 6
  | [], _ => by simp [firstC]
  | x :: r, h => by
    unfold firstC
    split
    · exact firstC_bd r (fun y hy => h y (List.mem_cons_of_mem _ hy))
    · exact h x (List.mem_cons_self ..)
theorem checkS_bd (f : Fr) : 0 ≤ checkS f ∧ checkS f ≤ 6 := by
  have hs : 0 ≤ setsS f.body ∧ setsS f.body ≤ 6 := firstC_bd _ (fun x hx => by
    obtain ⟨k, _, rfl⟩ := List.mem_map.1 hx
    exact setC_bd _ _)
  unfold checkS
  repeat' split
  all_goals first | omega | exact hs
theorem firstC_none : ∀ (l : List Int), (∀ x ∈ l, x = 0) → firstC l = 0
  | [], _ => rfl
  | x :: r, h => by
    unfold firstC
    rw [if_pos (h x (List.mem_cons_self ..))]
    exact firstC_none r (fun y hy => h y (List.mem_cons_of_mem _ hy))
theorem firstC_some : ∀ (p : List Int) (x : Int) (r : List Int), (∀ y ∈ p, y = 0) → x ≠ 0 → firstC (p ++ x :: r) = x
  | [], x, r, _, hx => by simp [firstC, hx]
  | y :: p, x, r, h, hx => by
    simp only [List.cons_append, firstC]
    rw [if_pos (h y (List.mem_cons_self ..))]
    exact firstC_some p x r (fun z hz => h z (List.mem_cons_of_mem _ hz)) hx
theorem odd_bit (fl : Int) (h : 0 ≤ fl ∧ fl ≤ 255) : bits .and .i64 fl 1 = fl % 2 := by simpa using BitsL.mask_i64 1 (by decide) fl h.1 (by omega)
set_option maxRecDepth 100000 in
set_option maxHeartbeats 4000000 in
theorem sizes_any (k fl st : Int) (n : Nat) (a : Option Addr) (c : Nat) (hfl : 0 ≤ fl ∧ fl ≤ 255) (w : World) :
    Calls Tryz.prog 64 #[.agg #[.int .i64 k, .int .i64 fl, .int .i64 st, .slice a n c]] w fun e w' => e = .returned (.bool (sizesB k fl n)) ∧ Below w.heap.size w w' := by
  have hob := odd_bit fl hfl
  by_cases h3 : k = 3
  · subst h3
    have hr : sizesB 3 fl n = decide (n = 4) := by simp [sizesB]
    rw [hr]
    by_cases hn : n = 4
    · subst hn
      go_enter Tryz.func64, Tryz.ntmps64
      go_wp2_with fail
      go_ret
      exact ⟨rfl, (Below.refl _ _).alloc (Nat.le_refl _) _⟩
    · have hn2 : ((n : Int) == 4) = false := beq_false_of_ne (by omega)
      rw [decide_eq_false hn]
      go_enter Tryz.func64, Tryz.ntmps64
      go_wp2_with fail
      go_ret
      exact ⟨by simp [hn2], (Below.refl _ _).alloc (Nat.le_refl _) _⟩
  by_cases h7 : k = 7
  · subst h7
    have hr : sizesB 7 fl n = decide (n = 4) := by simp [sizesB]
    rw [hr]
    by_cases hn : n = 4
    · subst hn
      go_enter Tryz.func64, Tryz.ntmps64
      go_wp2_with fail
      go_ret
      exact ⟨rfl, (Below.refl _ _).alloc (Nat.le_refl _) _⟩
    · have hn2 : ((n : Int) == 4) = false := beq_false_of_ne (by omega)
      rw [decide_eq_false hn]
      go_enter Tryz.func64, Tryz.ntmps64
      go_wp2_with fail
      go_ret
      exact ⟨by simp [hn2], (Below.refl _ _).alloc (Nat.le_refl _) _⟩
  by_cases h5 : k = 5
  · subst h5
    have hr : sizesB 5 fl n = decide (n = 8) := by simp [sizesB]
    rw [hr]
    by_cases hn : n = 8
    · subst hn
      go_enter Tryz.func64, Tryz.ntmps64
      go_wp2_with fail
      go_ret
      exact ⟨rfl, (Below.refl _ _).alloc (Nat.le_refl _) _⟩
    · have hn2 : ((n : Int) == 8) = false := beq_false_of_ne (by omega)
      rw [decide_eq_false hn]
      go_enter Tryz.func64, Tryz.ntmps64
      go_wp2_with fail
      go_ret
      exact ⟨by simp [hn2], (Below.refl _ _).alloc (Nat.le_refl _) _⟩
  by_cases h6 : k = 6
  · subst h6
    have hr : sizesB 6 fl n = decide (8 ≤ n) := by simp [sizesB]
    rw [hr]
    by_cases hn : 8 ≤ n
    · have hn2 : (8 : Int) ≤ (n : Int) := by omega
      rw [decide_eq_true hn]
      go_enter Tryz.func64, Tryz.ntmps64
      go_wp2_with fail
      go_ret
      exact ⟨by simp [hn], (Below.refl _ _).alloc (Nat.le_refl _) _⟩
    · have hn2 : ¬ (8 : Int) ≤ (n : Int) := by omega
      rw [decide_eq_false hn]
      go_enter Tryz.func64, Tryz.ntmps64
      go_wp2_with fail
      go_ret
      exact ⟨by simp [hn], (Below.refl _ _).alloc (Nat.le_refl _) _⟩
  by_cases h4 : k = 4
  · subst h4
    have hr : sizesB 4 fl n = (decide (n % 6 = 0) && (decide (n = 0) || decide (fl % 2 = 0))) := by simp [sizesB]
    rw [hr]
    have htm : (n : Int).tmod 6 = ((n % 6 : Nat) : Int) := by rw [Int.tmod_eq_emod_of_nonneg (by omega)]; omega
    by_cases hm : n % 6 = 0
    · have hm2 : ((n : Int) % 6 == 0) = true := by rw [beq_iff_eq]; omega
      by_cases hn : n = 0
      · subst hn
        go_enter Tryz.func64, Tryz.ntmps64
        go_wp2_with fail
        go_ret
        exact ⟨rfl, (Below.refl _ _).alloc (Nat.le_refl _) _⟩
      · have hn2 : ((n : Int) == 0) = false := beq_false_of_ne (by omega)
        by_cases hf : fl % 2 = 0
        · have hf2 : (bits BinOp.and IntKind.i64 fl 1 == 0) = true := by rw [hob, hf]; rfl
          rw [decide_eq_true hm, decide_eq_true hf, decide_eq_false hn]
          clear hob htm hm hn hf
          go_enter Tryz.func64, Tryz.ntmps64
          go_wp2_with fail
          go_ret
          exact ⟨by simp [hf2], (Below.refl _ _).alloc (Nat.le_refl _) _⟩
        · have hf2 : (bits BinOp.and IntKind.i64 fl 1 == 0) = false := by rw [hob]; exact beq_false_of_ne hf
          rw [decide_eq_true hm, decide_eq_false hf, decide_eq_false hn]
          clear hob htm hm hn hf
          go_enter Tryz.func64, Tryz.ntmps64
          go_wp2_with fail
          go_ret
          exact ⟨by simp [hf2], (Below.refl _ _).alloc (Nat.le_refl _) _⟩
    · have hm2 : ((n : Int) % 6 == 0) = false := beq_false_of_ne (by omega)
      rw [decide_eq_false hm]
      clear hob htm hm
      go_enter Tryz.func64, Tryz.ntmps64
      go_wp2_with fail
      go_ret
      exact ⟨rfl, (Below.refl _ _).alloc (Nat.le_refl _) _⟩
  have hr : sizesB k fl n = true := by simp [sizesB, h3, h4, h5, h6, h7]
  rw [hr]
  have b3 : (k == 3) = false := beq_false_of_ne h3
  have b4 : (k == 4) = false := beq_false_of_ne h4
  have b5 : (k == 5) = false := beq_false_of_ne h5
  have b6 : (k == 6) = false := beq_false_of_ne h6
  have b7 : (k == 7) = false := beq_false_of_ne h7
  clear hr hob
  go_enter Tryz.func64, Tryz.ntmps64
  go_wp2_with fail
  go_ret
  exact ⟨rfl, (Below.refl _ _).alloc (Nat.le_refl _) _⟩
end Go.Proofs.YtegngpingfjedaaGreatDoor.ConnS

/- frame.Check of any frame but one of settings, exactly. -/
namespace Go.Proofs.YtegngpingfjedaaGreatDoor.ConnS
open Go.RowKit ModL ConnR BA WireBig SlicesB FrameC
set_option linter.unusedVariables false
set_option linter.unusedSimpArgs false

set_option maxRecDepth 100000 in
set_option maxHeartbeats 4000000 in
theorem check_e0 (fl : Int) (n : Nat) (a : Option Addr) (c : Nat) (w : World) : Calls Tryz.prog 29 #[.agg #[.int .i64 0, .int .i64 fl, .int .i64 0, .slice a n c]] w fun e w' => e = .returned (.int .i64 1) ∧ Below w.heap.size w w' := by
  go_enter Tryz.func29, Tryz.ntmps29
  go_wp2_with fail
  refine bodyPost_ret (v := .int .i64 1) (by simp [results, Tryz.results29, go_sem]) rfl ⟨rfl, ?_⟩
  first | exact (((Below.refl _ _).alloc (Nat.le_refl _) _).alloc (by simp) _).setCell (by simp) _ | exact (((Below.refl _ _).alloc (Nat.le_refl _) _).alloc (by simp) _)
set_option maxRecDepth 100000 in
set_option maxHeartbeats 4000000 in
theorem check_e1 (fl : Int) (n : Nat) (a : Option Addr) (c : Nat) (w : World) : Calls Tryz.prog 29 #[.agg #[.int .i64 1, .int .i64 fl, .int .i64 0, .slice a n c]] w fun e w' => e = .returned (.int .i64 1) ∧ Below w.heap.size w w' := by
  go_enter Tryz.func29, Tryz.ntmps29
  go_wp2_with fail
  refine bodyPost_ret (v := .int .i64 1) (by simp [results, Tryz.results29, go_sem]) rfl ⟨rfl, ?_⟩
  first | exact (((Below.refl _ _).alloc (Nat.le_refl _) _).alloc (by simp) _).setCell (by simp) _ | exact (((Below.refl _ _).alloc (Nat.le_refl _) _).alloc (by simp) _)
set_option maxRecDepth 100000 in
set_option maxHeartbeats 4000000 in
theorem check_e2 (fl : Int) (n : Nat) (a : Option Addr) (c : Nat) (w : World) : Calls Tryz.prog 29 #[.agg #[.int .i64 2, .int .i64 fl, .int .i64 0, .slice a n c]] w fun e w' => e = .returned (.int .i64 1) ∧ Below w.heap.size w w' := by
  go_enter Tryz.func29, Tryz.ntmps29
  go_wp2_with fail
  refine bodyPost_ret (v := .int .i64 1) (by simp [results, Tryz.results29, go_sem]) rfl ⟨rfl, ?_⟩
  first | exact (((Below.refl _ _).alloc (Nat.le_refl _) _).alloc (by simp) _).setCell (by simp) _ | exact (((Below.refl _ _).alloc (Nat.le_refl _) _).alloc (by simp) _)
set_option maxRecDepth 100000 in
set_option maxHeartbeats 4000000 in
theorem check_e3 (fl : Int) (n : Nat) (a : Option Addr) (c : Nat) (w : World) : Calls Tryz.prog 29 #[.agg #[.int .i64 3, .int .i64 fl, .int .i64 0, .slice a n c]] w fun e w' => e = .returned (.int .i64 1) ∧ Below w.heap.size w w' := by
  go_enter Tryz.func29, Tryz.ntmps29
  go_wp2_with fail
  refine bodyPost_ret (v := .int .i64 1) (by simp [results, Tryz.results29, go_sem]) rfl ⟨rfl, ?_⟩
  first | exact (((Below.refl _ _).alloc (Nat.le_refl _) _).alloc (by simp) _).setCell (by simp) _ | exact (((Below.refl _ _).alloc (Nat.le_refl _) _).alloc (by simp) _)
set_option maxRecDepth 100000 in
set_option maxHeartbeats 4000000 in
theorem check_e4 (fl st : Int) (n : Nat) (a : Option Addr) (c : Nat) (w : World) (h : ¬ st = 0) : Calls Tryz.prog 29 #[.agg #[.int .i64 4, .int .i64 fl, .int .i64 st, .slice a n c]] w fun e w' => e = .returned (.int .i64 1) ∧ Below w.heap.size w w' := by
  have h1 : (st == 0) = false := beq_false_of_ne h
  have h2 : (st != 0) = true := bne_iff_ne.2 h
  clear h
  go_enter Tryz.func29, Tryz.ntmps29
  go_wp2_with fail
  refine bodyPost_ret (v := .int .i64 1) (by simp [results, Tryz.results29, go_sem]) rfl ⟨rfl, ?_⟩
  first | exact (((Below.refl _ _).alloc (Nat.le_refl _) _).alloc (by simp) _).setCell (by simp) _ | exact (((Below.refl _ _).alloc (Nat.le_refl _) _).alloc (by simp) _)
set_option maxRecDepth 100000 in
set_option maxHeartbeats 4000000 in
theorem check_e5 (fl st : Int) (n : Nat) (a : Option Addr) (c : Nat) (w : World) (h : ¬ st = 0) : Calls Tryz.prog 29 #[.agg #[.int .i64 5, .int .i64 fl, .int .i64 st, .slice a n c]] w fun e w' => e = .returned (.int .i64 1) ∧ Below w.heap.size w w' := by
  have h1 : (st == 0) = false := beq_false_of_ne h
  have h2 : (st != 0) = true := bne_iff_ne.2 h
  clear h
  go_enter Tryz.func29, Tryz.ntmps29
  go_wp2_with fail
  refine bodyPost_ret (v := .int .i64 1) (by simp [results, Tryz.results29, go_sem]) rfl ⟨rfl, ?_⟩
  first | exact (((Below.refl _ _).alloc (Nat.le_refl _) _).alloc (by simp) _).setCell (by simp) _ | exact (((Below.refl _ _).alloc (Nat.le_refl _) _).alloc (by simp) _)
set_option maxRecDepth 100000 in
set_option maxHeartbeats 4000000 in
theorem check_e6 (fl st : Int) (n : Nat) (a : Option Addr) (c : Nat) (w : World) (h : ¬ st = 0) : Calls Tryz.prog 29 #[.agg #[.int .i64 6, .int .i64 fl, .int .i64 st, .slice a n c]] w fun e w' => e = .returned (.int .i64 1) ∧ Below w.heap.size w w' := by
  have h1 : (st == 0) = false := beq_false_of_ne h
  have h2 : (st != 0) = true := bne_iff_ne.2 h
  clear h
  go_enter Tryz.func29, Tryz.ntmps29
  go_wp2_with fail
  refine bodyPost_ret (v := .int .i64 1) (by simp [results, Tryz.results29, go_sem]) rfl ⟨rfl, ?_⟩
  first | exact (((Below.refl _ _).alloc (Nat.le_refl _) _).alloc (by simp) _).setCell (by simp) _ | exact (((Below.refl _ _).alloc (Nat.le_refl _) _).alloc (by simp) _)
set_option maxRecDepth 100000 in
set_option maxHeartbeats 4000000 in
theorem check_p0 (fl st : Int) (n : Nat) (a : Option Addr) (c : Nat) (w : World) (hfl : 0 ≤ fl ∧ fl ≤ 255) (h : ¬ st = 0) (hz : sizesB 0 fl n = true) : Calls Tryz.prog 29 #[.agg #[.int .i64 0, .int .i64 fl, .int .i64 st, .slice a n c]] w fun e w' => e = .returned (.int .i64 0) ∧ Below w.heap.size w w' := by
  have HS := Lib.hid (fun W => sizes_any 0 fl st n a c hfl W)
  rw [hz] at HS
  have h1 : (st == 0) = false := beq_false_of_ne h
  have h2 : (st != 0) = true := bne_iff_ne.2 h
  clear h
  clear hz hfl
  go_enter Tryz.func29, Tryz.ntmps29
  go_upto_region 13 with fail
  have hB0 : Below w.heap.size w ((w.alloc (.cells #[.int .i64 0, .int .i64 fl, .int .i64 st, .slice a n c] 38)).alloc (.cells #[.int .i64 0] 3)) := ((Below.refl _ _).alloc (Nat.le_refl _) _).alloc (by simp) _
  have p0 : ((w.alloc (.cells #[.int .i64 0, .int .i64 fl, .int .i64 st, .slice a n c] 38)).alloc (.cells #[.int .i64 0] 3)).cell? ⟨w.heap.size, 0, none⟩ = some (.int .i64 0) := (cell_alloc (w.alloc (.cells #[.int .i64 0, .int .i64 fl, .int .i64 st, .slice a n c] 38)) _ w.heap.size 0 (by simp)).trans (by simp)
  have p1 : ((w.alloc (.cells #[.int .i64 0, .int .i64 fl, .int .i64 st, .slice a n c] 38)).alloc (.cells #[.int .i64 0] 3)).cell? ⟨w.heap.size, 1, none⟩ = some (.int .i64 fl) := (cell_alloc (w.alloc (.cells #[.int .i64 0, .int .i64 fl, .int .i64 st, .slice a n c] 38)) _ w.heap.size 1 (by simp)).trans (by simp)
  have p2 : ((w.alloc (.cells #[.int .i64 0, .int .i64 fl, .int .i64 st, .slice a n c] 38)).alloc (.cells #[.int .i64 0] 3)).cell? ⟨w.heap.size, 2, none⟩ = some (.int .i64 st) := (cell_alloc (w.alloc (.cells #[.int .i64 0, .int .i64 fl, .int .i64 st, .slice a n c] 38)) _ w.heap.size 2 (by simp)).trans (by simp)
  have p3 : ((w.alloc (.cells #[.int .i64 0, .int .i64 fl, .int .i64 st, .slice a n c] 38)).alloc (.cells #[.int .i64 0] 3)).cell? ⟨w.heap.size, 3, none⟩ = some (.slice a n c) := (cell_alloc (w.alloc (.cells #[.int .i64 0, .int .i64 fl, .int .i64 st, .slice a n c] 38)) _ w.heap.size 3 (by simp)).trans (by simp)
  have r0 : ((w.alloc (.cells #[.int .i64 0, .int .i64 fl, .int .i64 st, .slice a n c] 38)).alloc (.cells #[.int .i64 0] 3)).cell? ⟨w.heap.size + 1, 0, none⟩ = some (.int .i64 0) := by
    have h : w.heap.size + 1 = (w.alloc (.cells #[.int .i64 0, .int .i64 fl, .int .i64 st, .slice a n c] 38)).heap.size := by simp
    rw [h]; simp
  have rf : ((w.alloc (.cells #[.int .i64 0, .int .i64 fl, .int .i64 st, .slice a n c] 38)).alloc (.cells #[.int .i64 0] 3)).frozen? ⟨w.heap.size + 1, 0, none⟩ = false := by
    have h : w.heap.size + 1 = (w.alloc (.cells #[.int .i64 0, .int .i64 fl, .int .i64 st, .slice a n c] 38)).heap.size := by simp
    rw [h]; simp
  have hs : w.heap.size + 1 < ((w.alloc (.cells #[.int .i64 0, .int .i64 fl, .int .i64 st, .slice a n c] 38)).alloc (.cells #[.int .i64 0] 3)).heap.size := by simp
  generalize ((w.alloc (.cells #[.int .i64 0, .int .i64 fl, .int .i64 st, .slice a n c] 38)).alloc (.cells #[.int .i64 0] 3)) = W0 at *
  go_wp2_with (first
    | (go_at_call 64; refine (HS.out W0).mono ?_; rintro e w2 ⟨rfl, hB2⟩; have q0 := (hB2.cell (p := ⟨w.heap.size, 0, none⟩) (Nat.lt_trans (Nat.lt_succ_self _) hs)).trans p0; have q1 := (hB2.cell (p := ⟨w.heap.size, 1, none⟩) (Nat.lt_trans (Nat.lt_succ_self _) hs)).trans p1; have q2 := (hB2.cell (p := ⟨w.heap.size, 2, none⟩) (Nat.lt_trans (Nat.lt_succ_self _) hs)).trans p2; have q3 := (hB2.cell (p := ⟨w.heap.size, 3, none⟩) (Nat.lt_trans (Nat.lt_succ_self _) hs)).trans p3; have s0 := (hB2.cell (p := ⟨w.heap.size + 1, 0, none⟩) hs).trans r0; have sf := (hB2.frozen (p := ⟨w.heap.size + 1, 0, none⟩) hs).trans rf; have HB2 := Lib.hid (hB0.trans (hB2.mono hB0.size)); have hs2 := Nat.lt_of_lt_of_le hs hB2.size; clear hB2 p0 p1 p2 p3 r0 rf)
    | fail)
  have z0 := World.cell?_setCell_same _ _ (.int .i64 0) s0
  refine bodyPost_ret (v := .int .i64 0) (by simp [results, Tryz.results29, go_sem, z0]) rfl ⟨rfl, ?_⟩
  exact HB2.out.setCell (by simp) _
set_option maxRecDepth 100000 in
set_option maxHeartbeats 4000000 in
theorem check_p1 (fl st : Int) (n : Nat) (a : Option Addr) (c : Nat) (w : World) (hfl : 0 ≤ fl ∧ fl ≤ 255) (h : ¬ st = 0) (hz : sizesB 1 fl n = true) : Calls Tryz.prog 29 #[.agg #[.int .i64 1, .int .i64 fl, .int .i64 st, .slice a n c]] w fun e w' => e = .returned (.int .i64 0) ∧ Below w.heap.size w w' := by
  have HS := Lib.hid (fun W => sizes_any 1 fl st n a c hfl W)
  rw [hz] at HS
  have h1 : (st == 0) = false := beq_false_of_ne h
  have h2 : (st != 0) = true := bne_iff_ne.2 h
  clear h
  clear hz hfl
  go_enter Tryz.func29, Tryz.ntmps29
  go_upto_region 13 with fail
  have hB0 : Below w.heap.size w ((w.alloc (.cells #[.int .i64 1, .int .i64 fl, .int .i64 st, .slice a n c] 38)).alloc (.cells #[.int .i64 0] 3)) := ((Below.refl _ _).alloc (Nat.le_refl _) _).alloc (by simp) _
  have p0 : ((w.alloc (.cells #[.int .i64 1, .int .i64 fl, .int .i64 st, .slice a n c] 38)).alloc (.cells #[.int .i64 0] 3)).cell? ⟨w.heap.size, 0, none⟩ = some (.int .i64 1) := (cell_alloc (w.alloc (.cells #[.int .i64 1, .int .i64 fl, .int .i64 st, .slice a n c] 38)) _ w.heap.size 0 (by simp)).trans (by simp)
  have p1 : ((w.alloc (.cells #[.int .i64 1, .int .i64 fl, .int .i64 st, .slice a n c] 38)).alloc (.cells #[.int .i64 0] 3)).cell? ⟨w.heap.size, 1, none⟩ = some (.int .i64 fl) := (cell_alloc (w.alloc (.cells #[.int .i64 1, .int .i64 fl, .int .i64 st, .slice a n c] 38)) _ w.heap.size 1 (by simp)).trans (by simp)
  have p2 : ((w.alloc (.cells #[.int .i64 1, .int .i64 fl, .int .i64 st, .slice a n c] 38)).alloc (.cells #[.int .i64 0] 3)).cell? ⟨w.heap.size, 2, none⟩ = some (.int .i64 st) := (cell_alloc (w.alloc (.cells #[.int .i64 1, .int .i64 fl, .int .i64 st, .slice a n c] 38)) _ w.heap.size 2 (by simp)).trans (by simp)
  have p3 : ((w.alloc (.cells #[.int .i64 1, .int .i64 fl, .int .i64 st, .slice a n c] 38)).alloc (.cells #[.int .i64 0] 3)).cell? ⟨w.heap.size, 3, none⟩ = some (.slice a n c) := (cell_alloc (w.alloc (.cells #[.int .i64 1, .int .i64 fl, .int .i64 st, .slice a n c] 38)) _ w.heap.size 3 (by simp)).trans (by simp)
  have r0 : ((w.alloc (.cells #[.int .i64 1, .int .i64 fl, .int .i64 st, .slice a n c] 38)).alloc (.cells #[.int .i64 0] 3)).cell? ⟨w.heap.size + 1, 0, none⟩ = some (.int .i64 0) := by
    have h : w.heap.size + 1 = (w.alloc (.cells #[.int .i64 1, .int .i64 fl, .int .i64 st, .slice a n c] 38)).heap.size := by simp
    rw [h]; simp
  have rf : ((w.alloc (.cells #[.int .i64 1, .int .i64 fl, .int .i64 st, .slice a n c] 38)).alloc (.cells #[.int .i64 0] 3)).frozen? ⟨w.heap.size + 1, 0, none⟩ = false := by
    have h : w.heap.size + 1 = (w.alloc (.cells #[.int .i64 1, .int .i64 fl, .int .i64 st, .slice a n c] 38)).heap.size := by simp
    rw [h]; simp
  have hs : w.heap.size + 1 < ((w.alloc (.cells #[.int .i64 1, .int .i64 fl, .int .i64 st, .slice a n c] 38)).alloc (.cells #[.int .i64 0] 3)).heap.size := by simp
  generalize ((w.alloc (.cells #[.int .i64 1, .int .i64 fl, .int .i64 st, .slice a n c] 38)).alloc (.cells #[.int .i64 0] 3)) = W0 at *
  go_wp2_with (first
    | (go_at_call 64; refine (HS.out W0).mono ?_; rintro e w2 ⟨rfl, hB2⟩; have q0 := (hB2.cell (p := ⟨w.heap.size, 0, none⟩) (Nat.lt_trans (Nat.lt_succ_self _) hs)).trans p0; have q1 := (hB2.cell (p := ⟨w.heap.size, 1, none⟩) (Nat.lt_trans (Nat.lt_succ_self _) hs)).trans p1; have q2 := (hB2.cell (p := ⟨w.heap.size, 2, none⟩) (Nat.lt_trans (Nat.lt_succ_self _) hs)).trans p2; have q3 := (hB2.cell (p := ⟨w.heap.size, 3, none⟩) (Nat.lt_trans (Nat.lt_succ_self _) hs)).trans p3; have s0 := (hB2.cell (p := ⟨w.heap.size + 1, 0, none⟩) hs).trans r0; have sf := (hB2.frozen (p := ⟨w.heap.size + 1, 0, none⟩) hs).trans rf; have HB2 := Lib.hid (hB0.trans (hB2.mono hB0.size)); have hs2 := Nat.lt_of_lt_of_le hs hB2.size; clear hB2 p0 p1 p2 p3 r0 rf)
    | fail)
  have z0 := World.cell?_setCell_same _ _ (.int .i64 0) s0
  refine bodyPost_ret (v := .int .i64 0) (by simp [results, Tryz.results29, go_sem, z0]) rfl ⟨rfl, ?_⟩
  exact HB2.out.setCell (by simp) _
set_option maxRecDepth 100000 in
set_option maxHeartbeats 4000000 in
theorem check_p2 (fl st : Int) (n : Nat) (a : Option Addr) (c : Nat) (w : World) (hfl : 0 ≤ fl ∧ fl ≤ 255) (h : ¬ st = 0) (hz : sizesB 2 fl n = true) : Calls Tryz.prog 29 #[.agg #[.int .i64 2, .int .i64 fl, .int .i64 st, .slice a n c]] w fun e w' => e = .returned (.int .i64 0) ∧ Below w.heap.size w w' := by
  have HS := Lib.hid (fun W => sizes_any 2 fl st n a c hfl W)
  rw [hz] at HS
  have h1 : (st == 0) = false := beq_false_of_ne h
  have h2 : (st != 0) = true := bne_iff_ne.2 h
  clear h
  clear hz hfl
  go_enter Tryz.func29, Tryz.ntmps29
  go_upto_region 13 with fail
  have hB0 : Below w.heap.size w ((w.alloc (.cells #[.int .i64 2, .int .i64 fl, .int .i64 st, .slice a n c] 38)).alloc (.cells #[.int .i64 0] 3)) := ((Below.refl _ _).alloc (Nat.le_refl _) _).alloc (by simp) _
  have p0 : ((w.alloc (.cells #[.int .i64 2, .int .i64 fl, .int .i64 st, .slice a n c] 38)).alloc (.cells #[.int .i64 0] 3)).cell? ⟨w.heap.size, 0, none⟩ = some (.int .i64 2) := (cell_alloc (w.alloc (.cells #[.int .i64 2, .int .i64 fl, .int .i64 st, .slice a n c] 38)) _ w.heap.size 0 (by simp)).trans (by simp)
  have p1 : ((w.alloc (.cells #[.int .i64 2, .int .i64 fl, .int .i64 st, .slice a n c] 38)).alloc (.cells #[.int .i64 0] 3)).cell? ⟨w.heap.size, 1, none⟩ = some (.int .i64 fl) := (cell_alloc (w.alloc (.cells #[.int .i64 2, .int .i64 fl, .int .i64 st, .slice a n c] 38)) _ w.heap.size 1 (by simp)).trans (by simp)
  have p2 : ((w.alloc (.cells #[.int .i64 2, .int .i64 fl, .int .i64 st, .slice a n c] 38)).alloc (.cells #[.int .i64 0] 3)).cell? ⟨w.heap.size, 2, none⟩ = some (.int .i64 st) := (cell_alloc (w.alloc (.cells #[.int .i64 2, .int .i64 fl, .int .i64 st, .slice a n c] 38)) _ w.heap.size 2 (by simp)).trans (by simp)
  have p3 : ((w.alloc (.cells #[.int .i64 2, .int .i64 fl, .int .i64 st, .slice a n c] 38)).alloc (.cells #[.int .i64 0] 3)).cell? ⟨w.heap.size, 3, none⟩ = some (.slice a n c) := (cell_alloc (w.alloc (.cells #[.int .i64 2, .int .i64 fl, .int .i64 st, .slice a n c] 38)) _ w.heap.size 3 (by simp)).trans (by simp)
  have r0 : ((w.alloc (.cells #[.int .i64 2, .int .i64 fl, .int .i64 st, .slice a n c] 38)).alloc (.cells #[.int .i64 0] 3)).cell? ⟨w.heap.size + 1, 0, none⟩ = some (.int .i64 0) := by
    have h : w.heap.size + 1 = (w.alloc (.cells #[.int .i64 2, .int .i64 fl, .int .i64 st, .slice a n c] 38)).heap.size := by simp
    rw [h]; simp
  have rf : ((w.alloc (.cells #[.int .i64 2, .int .i64 fl, .int .i64 st, .slice a n c] 38)).alloc (.cells #[.int .i64 0] 3)).frozen? ⟨w.heap.size + 1, 0, none⟩ = false := by
    have h : w.heap.size + 1 = (w.alloc (.cells #[.int .i64 2, .int .i64 fl, .int .i64 st, .slice a n c] 38)).heap.size := by simp
    rw [h]; simp
  have hs : w.heap.size + 1 < ((w.alloc (.cells #[.int .i64 2, .int .i64 fl, .int .i64 st, .slice a n c] 38)).alloc (.cells #[.int .i64 0] 3)).heap.size := by simp
  generalize ((w.alloc (.cells #[.int .i64 2, .int .i64 fl, .int .i64 st, .slice a n c] 38)).alloc (.cells #[.int .i64 0] 3)) = W0 at *
  go_wp2_with (first
    | (go_at_call 64; refine (HS.out W0).mono ?_; rintro e w2 ⟨rfl, hB2⟩; have q0 := (hB2.cell (p := ⟨w.heap.size, 0, none⟩) (Nat.lt_trans (Nat.lt_succ_self _) hs)).trans p0; have q1 := (hB2.cell (p := ⟨w.heap.size, 1, none⟩) (Nat.lt_trans (Nat.lt_succ_self _) hs)).trans p1; have q2 := (hB2.cell (p := ⟨w.heap.size, 2, none⟩) (Nat.lt_trans (Nat.lt_succ_self _) hs)).trans p2; have q3 := (hB2.cell (p := ⟨w.heap.size, 3, none⟩) (Nat.lt_trans (Nat.lt_succ_self _) hs)).trans p3; have s0 := (hB2.cell (p := ⟨w.heap.size + 1, 0, none⟩) hs).trans r0; have sf := (hB2.frozen (p := ⟨w.heap.size + 1, 0, none⟩) hs).trans rf; have HB2 := Lib.hid (hB0.trans (hB2.mono hB0.size)); have hs2 := Nat.lt_of_lt_of_le hs hB2.size; clear hB2 p0 p1 p2 p3 r0 rf)
    | fail)
  have z0 := World.cell?_setCell_same _ _ (.int .i64 0) s0
  refine bodyPost_ret (v := .int .i64 0) (by simp [results, Tryz.results29, go_sem, z0]) rfl ⟨rfl, ?_⟩
  exact HB2.out.setCell (by simp) _
set_option maxRecDepth 100000 in
set_option maxHeartbeats 4000000 in
theorem check_p3 (fl st : Int) (n : Nat) (a : Option Addr) (c : Nat) (w : World) (hfl : 0 ≤ fl ∧ fl ≤ 255) (h : ¬ st = 0) (hz : sizesB 3 fl n = true) : Calls Tryz.prog 29 #[.agg #[.int .i64 3, .int .i64 fl, .int .i64 st, .slice a n c]] w fun e w' => e = .returned (.int .i64 0) ∧ Below w.heap.size w w' := by
  have HS := Lib.hid (fun W => sizes_any 3 fl st n a c hfl W)
  rw [hz] at HS
  have h1 : (st == 0) = false := beq_false_of_ne h
  have h2 : (st != 0) = true := bne_iff_ne.2 h
  clear h
  clear hz hfl
  go_enter Tryz.func29, Tryz.ntmps29
  go_upto_region 13 with fail
  have hB0 : Below w.heap.size w ((w.alloc (.cells #[.int .i64 3, .int .i64 fl, .int .i64 st, .slice a n c] 38)).alloc (.cells #[.int .i64 0] 3)) := ((Below.refl _ _).alloc (Nat.le_refl _) _).alloc (by simp) _
  have p0 : ((w.alloc (.cells #[.int .i64 3, .int .i64 fl, .int .i64 st, .slice a n c] 38)).alloc (.cells #[.int .i64 0] 3)).cell? ⟨w.heap.size, 0, none⟩ = some (.int .i64 3) := (cell_alloc (w.alloc (.cells #[.int .i64 3, .int .i64 fl, .int .i64 st, .slice a n c] 38)) _ w.heap.size 0 (by simp)).trans (by simp)
  have p1 : ((w.alloc (.cells #[.int .i64 3, .int .i64 fl, .int .i64 st, .slice a n c] 38)).alloc (.cells #[.int .i64 0] 3)).cell? ⟨w.heap.size, 1, none⟩ = some (.int .i64 fl) := (cell_alloc (w.alloc (.cells #[.int .i64 3, .int .i64 fl, .int .i64 st, .slice a n c] 38)) _ w.heap.size 1 (by simp)).trans (by simp)
  have p2 : ((w.alloc (.cells #[.int .i64 3, .int .i64 fl, .int .i64 st, .slice a n c] 38)).alloc (.cells #[.int .i64 0] 3)).cell? ⟨w.heap.size, 2, none⟩ = some (.int .i64 st) := (cell_alloc (w.alloc (.cells #[.int .i64 3, .int .i64 fl, .int .i64 st, .slice a n c] 38)) _ w.heap.size 2 (by simp)).trans (by simp)
  have p3 : ((w.alloc (.cells #[.int .i64 3, .int .i64 fl, .int .i64 st, .slice a n c] 38)).alloc (.cells #[.int .i64 0] 3)).cell? ⟨w.heap.size, 3, none⟩ = some (.slice a n c) := (cell_alloc (w.alloc (.cells #[.int .i64 3, .int .i64 fl, .int .i64 st, .slice a n c] 38)) _ w.heap.size 3 (by simp)).trans (by simp)
  have r0 : ((w.alloc (.cells #[.int .i64 3, .int .i64 fl, .int .i64 st, .slice a n c] 38)).alloc (.cells #[.int .i64 0] 3)).cell? ⟨w.heap.size + 1, 0, none⟩ = some (.int .i64 0) := by
    have h : w.heap.size + 1 = (w.alloc (.cells #[.int .i64 3, .int .i64 fl, .int .i64 st, .slice a n c] 38)).heap.size := by simp
    rw [h]; simp
  have rf : ((w.alloc (.cells #[.int .i64 3, .int .i64 fl, .int .i64 st, .slice a n c] 38)).alloc (.cells #[.int .i64 0] 3)).frozen? ⟨w.heap.size + 1, 0, none⟩ = false := by
    have h : w.heap.size + 1 = (w.alloc (.cells #[.int .i64 3, .int .i64 fl, .int .i64 st, .slice a n c] 38)).heap.size := by simp
    rw [h]; simp
  have hs : w.heap.size + 1 < ((w.alloc (.cells #[.int .i64 3, .int .i64 fl, .int .i64 st, .slice a n c] 38)).alloc (.cells #[.int .i64 0] 3)).heap.size := by simp
  generalize ((w.alloc (.cells #[.int .i64 3, .int .i64 fl, .int .i64 st, .slice a n c] 38)).alloc (.cells #[.int .i64 0] 3)) = W0 at *
  go_wp2_with (first
    | (go_at_call 64; refine (HS.out W0).mono ?_; rintro e w2 ⟨rfl, hB2⟩; have q0 := (hB2.cell (p := ⟨w.heap.size, 0, none⟩) (Nat.lt_trans (Nat.lt_succ_self _) hs)).trans p0; have q1 := (hB2.cell (p := ⟨w.heap.size, 1, none⟩) (Nat.lt_trans (Nat.lt_succ_self _) hs)).trans p1; have q2 := (hB2.cell (p := ⟨w.heap.size, 2, none⟩) (Nat.lt_trans (Nat.lt_succ_self _) hs)).trans p2; have q3 := (hB2.cell (p := ⟨w.heap.size, 3, none⟩) (Nat.lt_trans (Nat.lt_succ_self _) hs)).trans p3; have s0 := (hB2.cell (p := ⟨w.heap.size + 1, 0, none⟩) hs).trans r0; have sf := (hB2.frozen (p := ⟨w.heap.size + 1, 0, none⟩) hs).trans rf; have HB2 := Lib.hid (hB0.trans (hB2.mono hB0.size)); have hs2 := Nat.lt_of_lt_of_le hs hB2.size; clear hB2 p0 p1 p2 p3 r0 rf)
    | fail)
  have z0 := World.cell?_setCell_same _ _ (.int .i64 0) s0
  refine bodyPost_ret (v := .int .i64 0) (by simp [results, Tryz.results29, go_sem, z0]) rfl ⟨rfl, ?_⟩
  exact HB2.out.setCell (by simp) _
set_option maxRecDepth 100000 in
set_option maxHeartbeats 4000000 in
theorem check_s3 (fl st : Int) (n : Nat) (a : Option Addr) (c : Nat) (w : World) (hfl : 0 ≤ fl ∧ fl ≤ 255) (h : ¬ st = 0) (hz : sizesB 3 fl n = false) : Calls Tryz.prog 29 #[.agg #[.int .i64 3, .int .i64 fl, .int .i64 st, .slice a n c]] w fun e w' => e = .returned (.int .i64 6) ∧ Below w.heap.size w w' := by
  have HS := Lib.hid (fun W => sizes_any 3 fl st n a c hfl W)
  rw [hz] at HS
  have h1 : (st == 0) = false := beq_false_of_ne h
  have h2 : (st != 0) = true := bne_iff_ne.2 h
  clear h
  clear hz hfl
  go_enter Tryz.func29, Tryz.ntmps29
  go_upto_region 13 with fail
  have hB0 : Below w.heap.size w ((w.alloc (.cells #[.int .i64 3, .int .i64 fl, .int .i64 st, .slice a n c] 38)).alloc (.cells #[.int .i64 0] 3)) := ((Below.refl _ _).alloc (Nat.le_refl _) _).alloc (by simp) _
  have p0 : ((w.alloc (.cells #[.int .i64 3, .int .i64 fl, .int .i64 st, .slice a n c] 38)).alloc (.cells #[.int .i64 0] 3)).cell? ⟨w.heap.size, 0, none⟩ = some (.int .i64 3) := (cell_alloc (w.alloc (.cells #[.int .i64 3, .int .i64 fl, .int .i64 st, .slice a n c] 38)) _ w.heap.size 0 (by simp)).trans (by simp)
  have p1 : ((w.alloc (.cells #[.int .i64 3, .int .i64 fl, .int .i64 st, .slice a n c] 38)).alloc (.cells #[.int .i64 0] 3)).cell? ⟨w.heap.size, 1, none⟩ = some (.int .i64 fl) := (cell_alloc (w.alloc (.cells #[.int .i64 3, .int .i64 fl, .int .i64 st, .slice a n c] 38)) _ w.heap.size 1 (by simp)).trans (by simp)
  have p2 : ((w.alloc (.cells #[.int .i64 3, .int .i64 fl, .int .i64 st, .slice a n c] 38)).alloc (.cells #[.int .i64 0] 3)).cell? ⟨w.heap.size, 2, none⟩ = some (.int .i64 st) := (cell_alloc (w.alloc (.cells #[.int .i64 3, .int .i64 fl, .int .i64 st, .slice a n c] 38)) _ w.heap.size 2 (by simp)).trans (by simp)
  have p3 : ((w.alloc (.cells #[.int .i64 3, .int .i64 fl, .int .i64 st, .slice a n c] 38)).alloc (.cells #[.int .i64 0] 3)).cell? ⟨w.heap.size, 3, none⟩ = some (.slice a n c) := (cell_alloc (w.alloc (.cells #[.int .i64 3, .int .i64 fl, .int .i64 st, .slice a n c] 38)) _ w.heap.size 3 (by simp)).trans (by simp)
  have r0 : ((w.alloc (.cells #[.int .i64 3, .int .i64 fl, .int .i64 st, .slice a n c] 38)).alloc (.cells #[.int .i64 0] 3)).cell? ⟨w.heap.size + 1, 0, none⟩ = some (.int .i64 0) := by
    have h : w.heap.size + 1 = (w.alloc (.cells #[.int .i64 3, .int .i64 fl, .int .i64 st, .slice a n c] 38)).heap.size := by simp
    rw [h]; simp
  have rf : ((w.alloc (.cells #[.int .i64 3, .int .i64 fl, .int .i64 st, .slice a n c] 38)).alloc (.cells #[.int .i64 0] 3)).frozen? ⟨w.heap.size + 1, 0, none⟩ = false := by
    have h : w.heap.size + 1 = (w.alloc (.cells #[.int .i64 3, .int .i64 fl, .int .i64 st, .slice a n c] 38)).heap.size := by simp
    rw [h]; simp
  have hs : w.heap.size + 1 < ((w.alloc (.cells #[.int .i64 3, .int .i64 fl, .int .i64 st, .slice a n c] 38)).alloc (.cells #[.int .i64 0] 3)).heap.size := by simp
  generalize ((w.alloc (.cells #[.int .i64 3, .int .i64 fl, .int .i64 st, .slice a n c] 38)).alloc (.cells #[.int .i64 0] 3)) = W0 at *
  go_wp2_with (first
    | (go_at_call 64; refine (HS.out W0).mono ?_; rintro e w2 ⟨rfl, hB2⟩; have q0 := (hB2.cell (p := ⟨w.heap.size, 0, none⟩) (Nat.lt_trans (Nat.lt_succ_self _) hs)).trans p0; have q1 := (hB2.cell (p := ⟨w.heap.size, 1, none⟩) (Nat.lt_trans (Nat.lt_succ_self _) hs)).trans p1; have q2 := (hB2.cell (p := ⟨w.heap.size, 2, none⟩) (Nat.lt_trans (Nat.lt_succ_self _) hs)).trans p2; have q3 := (hB2.cell (p := ⟨w.heap.size, 3, none⟩) (Nat.lt_trans (Nat.lt_succ_self _) hs)).trans p3; have s0 := (hB2.cell (p := ⟨w.heap.size + 1, 0, none⟩) hs).trans r0; have sf := (hB2.frozen (p := ⟨w.heap.size + 1, 0, none⟩) hs).trans rf; have HB2 := Lib.hid (hB0.trans (hB2.mono hB0.size)); have hs2 := Nat.lt_of_lt_of_le hs hB2.size; clear hB2 p0 p1 p2 p3 r0 rf)
    | fail)
  have z0 := World.cell?_setCell_same _ _ (.int .i64 6) s0
  refine bodyPost_ret (v := .int .i64 6) (by simp [results, Tryz.results29, go_sem, z0]) rfl ⟨rfl, ?_⟩
  exact HB2.out.setCell (by simp) _
set_option maxRecDepth 100000 in
set_option maxHeartbeats 4000000 in
theorem check_p5 (fl : Int) (n : Nat) (a : Option Addr) (c : Nat) (w : World) (hfl : 0 ≤ fl ∧ fl ≤ 255)  (hz : sizesB 5 fl n = true) : Calls Tryz.prog 29 #[.agg #[.int .i64 5, .int .i64 fl, .int .i64 0, .slice a n c]] w fun e w' => e = .returned (.int .i64 0) ∧ Below w.heap.size w w' := by
  have HS := Lib.hid (fun W => sizes_any 5 fl 0 n a c hfl W)
  rw [hz] at HS
  clear hz hfl
  go_enter Tryz.func29, Tryz.ntmps29
  go_upto_region 13 with fail
  have hB0 : Below w.heap.size w ((w.alloc (.cells #[.int .i64 5, .int .i64 fl, .int .i64 0, .slice a n c] 38)).alloc (.cells #[.int .i64 0] 3)) := ((Below.refl _ _).alloc (Nat.le_refl _) _).alloc (by simp) _
  have p0 : ((w.alloc (.cells #[.int .i64 5, .int .i64 fl, .int .i64 0, .slice a n c] 38)).alloc (.cells #[.int .i64 0] 3)).cell? ⟨w.heap.size, 0, none⟩ = some (.int .i64 5) := (cell_alloc (w.alloc (.cells #[.int .i64 5, .int .i64 fl, .int .i64 0, .slice a n c] 38)) _ w.heap.size 0 (by simp)).trans (by simp)
  have p1 : ((w.alloc (.cells #[.int .i64 5, .int .i64 fl, .int .i64 0, .slice a n c] 38)).alloc (.cells #[.int .i64 0] 3)).cell? ⟨w.heap.size, 1, none⟩ = some (.int .i64 fl) := (cell_alloc (w.alloc (.cells #[.int .i64 5, .int .i64 fl, .int .i64 0, .slice a n c] 38)) _ w.heap.size 1 (by simp)).trans (by simp)
  have p2 : ((w.alloc (.cells #[.int .i64 5, .int .i64 fl, .int .i64 0, .slice a n c] 38)).alloc (.cells #[.int .i64 0] 3)).cell? ⟨w.heap.size, 2, none⟩ = some (.int .i64 0) := (cell_alloc (w.alloc (.cells #[.int .i64 5, .int .i64 fl, .int .i64 0, .slice a n c] 38)) _ w.heap.size 2 (by simp)).trans (by simp)
  have p3 : ((w.alloc (.cells #[.int .i64 5, .int .i64 fl, .int .i64 0, .slice a n c] 38)).alloc (.cells #[.int .i64 0] 3)).cell? ⟨w.heap.size, 3, none⟩ = some (.slice a n c) := (cell_alloc (w.alloc (.cells #[.int .i64 5, .int .i64 fl, .int .i64 0, .slice a n c] 38)) _ w.heap.size 3 (by simp)).trans (by simp)
  have r0 : ((w.alloc (.cells #[.int .i64 5, .int .i64 fl, .int .i64 0, .slice a n c] 38)).alloc (.cells #[.int .i64 0] 3)).cell? ⟨w.heap.size + 1, 0, none⟩ = some (.int .i64 0) := by
    have h : w.heap.size + 1 = (w.alloc (.cells #[.int .i64 5, .int .i64 fl, .int .i64 0, .slice a n c] 38)).heap.size := by simp
    rw [h]; simp
  have rf : ((w.alloc (.cells #[.int .i64 5, .int .i64 fl, .int .i64 0, .slice a n c] 38)).alloc (.cells #[.int .i64 0] 3)).frozen? ⟨w.heap.size + 1, 0, none⟩ = false := by
    have h : w.heap.size + 1 = (w.alloc (.cells #[.int .i64 5, .int .i64 fl, .int .i64 0, .slice a n c] 38)).heap.size := by simp
    rw [h]; simp
  have hs : w.heap.size + 1 < ((w.alloc (.cells #[.int .i64 5, .int .i64 fl, .int .i64 0, .slice a n c] 38)).alloc (.cells #[.int .i64 0] 3)).heap.size := by simp
  generalize ((w.alloc (.cells #[.int .i64 5, .int .i64 fl, .int .i64 0, .slice a n c] 38)).alloc (.cells #[.int .i64 0] 3)) = W0 at *
  go_wp2_with (first
    | (go_at_call 64; refine (HS.out W0).mono ?_; rintro e w2 ⟨rfl, hB2⟩; have q0 := (hB2.cell (p := ⟨w.heap.size, 0, none⟩) (Nat.lt_trans (Nat.lt_succ_self _) hs)).trans p0; have q1 := (hB2.cell (p := ⟨w.heap.size, 1, none⟩) (Nat.lt_trans (Nat.lt_succ_self _) hs)).trans p1; have q2 := (hB2.cell (p := ⟨w.heap.size, 2, none⟩) (Nat.lt_trans (Nat.lt_succ_self _) hs)).trans p2; have q3 := (hB2.cell (p := ⟨w.heap.size, 3, none⟩) (Nat.lt_trans (Nat.lt_succ_self _) hs)).trans p3; have s0 := (hB2.cell (p := ⟨w.heap.size + 1, 0, none⟩) hs).trans r0; have sf := (hB2.frozen (p := ⟨w.heap.size + 1, 0, none⟩) hs).trans rf; have HB2 := Lib.hid (hB0.trans (hB2.mono hB0.size)); have hs2 := Nat.lt_of_lt_of_le hs hB2.size; clear hB2 p0 p1 p2 p3 r0 rf)
    | fail)
  have z0 := World.cell?_setCell_same _ _ (.int .i64 0) s0
  refine bodyPost_ret (v := .int .i64 0) (by simp [results, Tryz.results29, go_sem, z0]) rfl ⟨rfl, ?_⟩
  exact HB2.out.setCell (by simp) _
set_option maxRecDepth 100000 in
set_option maxHeartbeats 4000000 in
theorem check_p6 (fl : Int) (n : Nat) (a : Option Addr) (c : Nat) (w : World) (hfl : 0 ≤ fl ∧ fl ≤ 255)  (hz : sizesB 6 fl n = true) : Calls Tryz.prog 29 #[.agg #[.int .i64 6, .int .i64 fl, .int .i64 0, .slice a n c]] w fun e w' => e = .returned (.int .i64 0) ∧ Below w.heap.size w w' := by
  have HS := Lib.hid (fun W => sizes_any 6 fl 0 n a c hfl W)
  rw [hz] at HS
  clear hz hfl
  go_enter Tryz.func29, Tryz.ntmps29
  go_upto_region 13 with fail
  have hB0 : Below w.heap.size w ((w.alloc (.cells #[.int .i64 6, .int .i64 fl, .int .i64 0, .slice a n c] 38)).alloc (.cells #[.int .i64 0] 3)) := ((Below.refl _ _).alloc (Nat.le_refl _) _).alloc (by simp) _
  have p0 : ((w.alloc (.cells #[.int .i64 6, .int .i64 fl, .int .i64 0, .slice a n c] 38)).alloc (.cells #[.int .i64 0] 3)).cell? ⟨w.heap.size, 0, none⟩ = some (.int .i64 6) := (cell_alloc (w.alloc (.cells #[.int .i64 6, .int .i64 fl, .int .i64 0, .slice a n c] 38)) _ w.heap.size 0 (by simp)).trans (by simp)
  have p1 : ((w.alloc (.cells #[.int .i64 6, .int .i64 fl, .int .i64 0, .slice a n c] 38)).alloc (.cells #[.int .i64 0] 3)).cell? ⟨w.heap.size, 1, none⟩ = some (.int .i64 fl) := (cell_alloc (w.alloc (.cells #[.int .i64 6, .int .i64 fl, .int .i64 0, .slice a n c] 38)) _ w.heap.size 1 (by simp)).trans (by simp)
  have p2 : ((w.alloc (.cells #[.int .i64 6, .int .i64 fl, .int .i64 0, .slice a n c] 38)).alloc (.cells #[.int .i64 0] 3)).cell? ⟨w.heap.size, 2, none⟩ = some (.int .i64 0) := (cell_alloc (w.alloc (.cells #[.int .i64 6, .int .i64 fl, .int .i64 0, .slice a n c] 38)) _ w.heap.size 2 (by simp)).trans (by simp)
  have p3 : ((w.alloc (.cells #[.int .i64 6, .int .i64 fl, .int .i64 0, .slice a n c] 38)).alloc (.cells #[.int .i64 0] 3)).cell? ⟨w.heap.size, 3, none⟩ = some (.slice a n c) := (cell_alloc (w.alloc (.cells #[.int .i64 6, .int .i64 fl, .int .i64 0, .slice a n c] 38)) _ w.heap.size 3 (by simp)).trans (by simp)
  have r0 : ((w.alloc (.cells #[.int .i64 6, .int .i64 fl, .int .i64 0, .slice a n c] 38)).alloc (.cells #[.int .i64 0] 3)).cell? ⟨w.heap.size + 1, 0, none⟩ = some (.int .i64 0) := by
    have h : w.heap.size + 1 = (w.alloc (.cells #[.int .i64 6, .int .i64 fl, .int .i64 0, .slice a n c] 38)).heap.size := by simp
    rw [h]; simp
  have rf : ((w.alloc (.cells #[.int .i64 6, .int .i64 fl, .int .i64 0, .slice a n c] 38)).alloc (.cells #[.int .i64 0] 3)).frozen? ⟨w.heap.size + 1, 0, none⟩ = false := by
    have h : w.heap.size + 1 = (w.alloc (.cells #[.int .i64 6, .int .i64 fl, .int .i64 0, .slice a n c] 38)).heap.size := by simp
    rw [h]; simp
  have hs : w.heap.size + 1 < ((w.alloc (.cells #[.int .i64 6, .int .i64 fl, .int .i64 0, .slice a n c] 38)).alloc (.cells #[.int .i64 0] 3)).heap.size := by simp
  generalize ((w.alloc (.cells #[.int .i64 6, .int .i64 fl, .int .i64 0, .slice a n c] 38)).alloc (.cells #[.int .i64 0] 3)) = W0 at *
  go_wp2_with (first
    | (go_at_call 64; refine (HS.out W0).mono ?_; rintro e w2 ⟨rfl, hB2⟩; have q0 := (hB2.cell (p := ⟨w.heap.size, 0, none⟩) (Nat.lt_trans (Nat.lt_succ_self _) hs)).trans p0; have q1 := (hB2.cell (p := ⟨w.heap.size, 1, none⟩) (Nat.lt_trans (Nat.lt_succ_self _) hs)).trans p1; have q2 := (hB2.cell (p := ⟨w.heap.size, 2, none⟩) (Nat.lt_trans (Nat.lt_succ_self _) hs)).trans p2; have q3 := (hB2.cell (p := ⟨w.heap.size, 3, none⟩) (Nat.lt_trans (Nat.lt_succ_self _) hs)).trans p3; have s0 := (hB2.cell (p := ⟨w.heap.size + 1, 0, none⟩) hs).trans r0; have sf := (hB2.frozen (p := ⟨w.heap.size + 1, 0, none⟩) hs).trans rf; have HB2 := Lib.hid (hB0.trans (hB2.mono hB0.size)); have hs2 := Nat.lt_of_lt_of_le hs hB2.size; clear hB2 p0 p1 p2 p3 r0 rf)
    | fail)
  have z0 := World.cell?_setCell_same _ _ (.int .i64 0) s0
  refine bodyPost_ret (v := .int .i64 0) (by simp [results, Tryz.results29, go_sem, z0]) rfl ⟨rfl, ?_⟩
  exact HB2.out.setCell (by simp) _
set_option maxRecDepth 100000 in
set_option maxHeartbeats 4000000 in
theorem check_s4 (fl : Int) (n : Nat) (a : Option Addr) (c : Nat) (w : World) (hfl : 0 ≤ fl ∧ fl ≤ 255)  (hz : sizesB 4 fl n = false) : Calls Tryz.prog 29 #[.agg #[.int .i64 4, .int .i64 fl, .int .i64 0, .slice a n c]] w fun e w' => e = .returned (.int .i64 6) ∧ Below w.heap.size w w' := by
  have HS := Lib.hid (fun W => sizes_any 4 fl 0 n a c hfl W)
  rw [hz] at HS
  clear hz hfl
  go_enter Tryz.func29, Tryz.ntmps29
  go_upto_region 13 with fail
  have hB0 : Below w.heap.size w ((w.alloc (.cells #[.int .i64 4, .int .i64 fl, .int .i64 0, .slice a n c] 38)).alloc (.cells #[.int .i64 0] 3)) := ((Below.refl _ _).alloc (Nat.le_refl _) _).alloc (by simp) _
  have p0 : ((w.alloc (.cells #[.int .i64 4, .int .i64 fl, .int .i64 0, .slice a n c] 38)).alloc (.cells #[.int .i64 0] 3)).cell? ⟨w.heap.size, 0, none⟩ = some (.int .i64 4) := (cell_alloc (w.alloc (.cells #[.int .i64 4, .int .i64 fl, .int .i64 0, .slice a n c] 38)) _ w.heap.size 0 (by simp)).trans (by simp)
  have p1 : ((w.alloc (.cells #[.int .i64 4, .int .i64 fl, .int .i64 0, .slice a n c] 38)).alloc (.cells #[.int .i64 0] 3)).cell? ⟨w.heap.size, 1, none⟩ = some (.int .i64 fl) := (cell_alloc (w.alloc (.cells #[.int .i64 4, .int .i64 fl, .int .i64 0, .slice a n c] 38)) _ w.heap.size 1 (by simp)).trans (by simp)
  have p2 : ((w.alloc (.cells #[.int .i64 4, .int .i64 fl, .int .i64 0, .slice a n c] 38)).alloc (.cells #[.int .i64 0] 3)).cell? ⟨w.heap.size, 2, none⟩ = some (.int .i64 0) := (cell_alloc (w.alloc (.cells #[.int .i64 4, .int .i64 fl, .int .i64 0, .slice a n c] 38)) _ w.heap.size 2 (by simp)).trans (by simp)
  have p3 : ((w.alloc (.cells #[.int .i64 4, .int .i64 fl, .int .i64 0, .slice a n c] 38)).alloc (.cells #[.int .i64 0] 3)).cell? ⟨w.heap.size, 3, none⟩ = some (.slice a n c) := (cell_alloc (w.alloc (.cells #[.int .i64 4, .int .i64 fl, .int .i64 0, .slice a n c] 38)) _ w.heap.size 3 (by simp)).trans (by simp)
  have r0 : ((w.alloc (.cells #[.int .i64 4, .int .i64 fl, .int .i64 0, .slice a n c] 38)).alloc (.cells #[.int .i64 0] 3)).cell? ⟨w.heap.size + 1, 0, none⟩ = some (.int .i64 0) := by
    have h : w.heap.size + 1 = (w.alloc (.cells #[.int .i64 4, .int .i64 fl, .int .i64 0, .slice a n c] 38)).heap.size := by simp
    rw [h]; simp
  have rf : ((w.alloc (.cells #[.int .i64 4, .int .i64 fl, .int .i64 0, .slice a n c] 38)).alloc (.cells #[.int .i64 0] 3)).frozen? ⟨w.heap.size + 1, 0, none⟩ = false := by
    have h : w.heap.size + 1 = (w.alloc (.cells #[.int .i64 4, .int .i64 fl, .int .i64 0, .slice a n c] 38)).heap.size := by simp
    rw [h]; simp
  have hs : w.heap.size + 1 < ((w.alloc (.cells #[.int .i64 4, .int .i64 fl, .int .i64 0, .slice a n c] 38)).alloc (.cells #[.int .i64 0] 3)).heap.size := by simp
  generalize ((w.alloc (.cells #[.int .i64 4, .int .i64 fl, .int .i64 0, .slice a n c] 38)).alloc (.cells #[.int .i64 0] 3)) = W0 at *
  go_wp2_with (first
    | (go_at_call 64; refine (HS.out W0).mono ?_; rintro e w2 ⟨rfl, hB2⟩; have q0 := (hB2.cell (p := ⟨w.heap.size, 0, none⟩) (Nat.lt_trans (Nat.lt_succ_self _) hs)).trans p0; have q1 := (hB2.cell (p := ⟨w.heap.size, 1, none⟩) (Nat.lt_trans (Nat.lt_succ_self _) hs)).trans p1; have q2 := (hB2.cell (p := ⟨w.heap.size, 2, none⟩) (Nat.lt_trans (Nat.lt_succ_self _) hs)).trans p2; have q3 := (hB2.cell (p := ⟨w.heap.size, 3, none⟩) (Nat.lt_trans (Nat.lt_succ_self _) hs)).trans p3; have s0 := (hB2.cell (p := ⟨w.heap.size + 1, 0, none⟩) hs).trans r0; have sf := (hB2.frozen (p := ⟨w.heap.size + 1, 0, none⟩) hs).trans rf; have HB2 := Lib.hid (hB0.trans (hB2.mono hB0.size)); have hs2 := Nat.lt_of_lt_of_le hs hB2.size; clear hB2 p0 p1 p2 p3 r0 rf)
    | fail)
  have z0 := World.cell?_setCell_same _ _ (.int .i64 6) s0
  refine bodyPost_ret (v := .int .i64 6) (by simp [results, Tryz.results29, go_sem, z0]) rfl ⟨rfl, ?_⟩
  exact HB2.out.setCell (by simp) _
set_option maxRecDepth 100000 in
set_option maxHeartbeats 4000000 in
theorem check_s5 (fl : Int) (n : Nat) (a : Option Addr) (c : Nat) (w : World) (hfl : 0 ≤ fl ∧ fl ≤ 255)  (hz : sizesB 5 fl n = false) : Calls Tryz.prog 29 #[.agg #[.int .i64 5, .int .i64 fl, .int .i64 0, .slice a n c]] w fun e w' => e = .returned (.int .i64 6) ∧ Below w.heap.size w w' := by
  have HS := Lib.hid (fun W => sizes_any 5 fl 0 n a c hfl W)
  rw [hz] at HS
  clear hz hfl
  go_enter Tryz.func29, Tryz.ntmps29
  go_upto_region 13 with fail
  have hB0 : Below w.heap.size w ((w.alloc (.cells #[.int .i64 5, .int .i64 fl, .int .i64 0, .slice a n c] 38)).alloc (.cells #[.int .i64 0] 3)) := ((Below.refl _ _).alloc (Nat.le_refl _) _).alloc (by simp) _
  have p0 : ((w.alloc (.cells #[.int .i64 5, .int .i64 fl, .int .i64 0, .slice a n c] 38)).alloc (.cells #[.int .i64 0] 3)).cell? ⟨w.heap.size, 0, none⟩ = some (.int .i64 5) := (cell_alloc (w.alloc (.cells #[.int .i64 5, .int .i64 fl, .int .i64 0, .slice a n c] 38)) _ w.heap.size 0 (by simp)).trans (by simp)
  have p1 : ((w.alloc (.cells #[.int .i64 5, .int .i64 fl, .int .i64 0, .slice a n c] 38)).alloc (.cells #[.int .i64 0] 3)).cell? ⟨w.heap.size, 1, none⟩ = some (.int .i64 fl) := (cell_alloc (w.alloc (.cells #[.int .i64 5, .int .i64 fl, .int .i64 0, .slice a n c] 38)) _ w.heap.size 1 (by simp)).trans (by simp)
  have p2 : ((w.alloc (.cells #[.int .i64 5, .int .i64 fl, .int .i64 0, .slice a n c] 38)).alloc (.cells #[.int .i64 0] 3)).cell? ⟨w.heap.size, 2, none⟩ = some (.int .i64 0) := (cell_alloc (w.alloc (.cells #[.int .i64 5, .int .i64 fl, .int .i64 0, .slice a n c] 38)) _ w.heap.size 2 (by simp)).trans (by simp)
  have p3 : ((w.alloc (.cells #[.int .i64 5, .int .i64 fl, .int .i64 0, .slice a n c] 38)).alloc (.cells #[.int .i64 0] 3)).cell? ⟨w.heap.size, 3, none⟩ = some (.slice a n c) := (cell_alloc (w.alloc (.cells #[.int .i64 5, .int .i64 fl, .int .i64 0, .slice a n c] 38)) _ w.heap.size 3 (by simp)).trans (by simp)
  have r0 : ((w.alloc (.cells #[.int .i64 5, .int .i64 fl, .int .i64 0, .slice a n c] 38)).alloc (.cells #[.int .i64 0] 3)).cell? ⟨w.heap.size + 1, 0, none⟩ = some (.int .i64 0) := by
    have h : w.heap.size + 1 = (w.alloc (.cells #[.int .i64 5, .int .i64 fl, .int .i64 0, .slice a n c] 38)).heap.size := by simp
    rw [h]; simp
  have rf : ((w.alloc (.cells #[.int .i64 5, .int .i64 fl, .int .i64 0, .slice a n c] 38)).alloc (.cells #[.int .i64 0] 3)).frozen? ⟨w.heap.size + 1, 0, none⟩ = false := by
    have h : w.heap.size + 1 = (w.alloc (.cells #[.int .i64 5, .int .i64 fl, .int .i64 0, .slice a n c] 38)).heap.size := by simp
    rw [h]; simp
  have hs : w.heap.size + 1 < ((w.alloc (.cells #[.int .i64 5, .int .i64 fl, .int .i64 0, .slice a n c] 38)).alloc (.cells #[.int .i64 0] 3)).heap.size := by simp
  generalize ((w.alloc (.cells #[.int .i64 5, .int .i64 fl, .int .i64 0, .slice a n c] 38)).alloc (.cells #[.int .i64 0] 3)) = W0 at *
  go_wp2_with (first
    | (go_at_call 64; refine (HS.out W0).mono ?_; rintro e w2 ⟨rfl, hB2⟩; have q0 := (hB2.cell (p := ⟨w.heap.size, 0, none⟩) (Nat.lt_trans (Nat.lt_succ_self _) hs)).trans p0; have q1 := (hB2.cell (p := ⟨w.heap.size, 1, none⟩) (Nat.lt_trans (Nat.lt_succ_self _) hs)).trans p1; have q2 := (hB2.cell (p := ⟨w.heap.size, 2, none⟩) (Nat.lt_trans (Nat.lt_succ_self _) hs)).trans p2; have q3 := (hB2.cell (p := ⟨w.heap.size, 3, none⟩) (Nat.lt_trans (Nat.lt_succ_self _) hs)).trans p3; have s0 := (hB2.cell (p := ⟨w.heap.size + 1, 0, none⟩) hs).trans r0; have sf := (hB2.frozen (p := ⟨w.heap.size + 1, 0, none⟩) hs).trans rf; have HB2 := Lib.hid (hB0.trans (hB2.mono hB0.size)); have hs2 := Nat.lt_of_lt_of_le hs hB2.size; clear hB2 p0 p1 p2 p3 r0 rf)
    | fail)
  have z0 := World.cell?_setCell_same _ _ (.int .i64 6) s0
  refine bodyPost_ret (v := .int .i64 6) (by simp [results, Tryz.results29, go_sem, z0]) rfl ⟨rfl, ?_⟩
  exact HB2.out.setCell (by simp) _
set_option maxRecDepth 100000 in
set_option maxHeartbeats 4000000 in
theorem check_s6 (fl : Int) (n : Nat) (a : Option Addr) (c : Nat) (w : World) (hfl : 0 ≤ fl ∧ fl ≤ 255)  (hz : sizesB 6 fl n = false) : Calls Tryz.prog 29 #[.agg #[.int .i64 6, .int .i64 fl, .int .i64 0, .slice a n c]] w fun e w' => e = .returned (.int .i64 6) ∧ Below w.heap.size w w' := by
  have HS := Lib.hid (fun W => sizes_any 6 fl 0 n a c hfl W)
  rw [hz] at HS
  clear hz hfl
  go_enter Tryz.func29, Tryz.ntmps29
  go_upto_region 13 with fail
  have hB0 : Below w.heap.size w ((w.alloc (.cells #[.int .i64 6, .int .i64 fl, .int .i64 0, .slice a n c] 38)).alloc (.cells #[.int .i64 0] 3)) := ((Below.refl _ _).alloc (Nat.le_refl _) _).alloc (by simp) _
  have p0 : ((w.alloc (.cells #[.int .i64 6, .int .i64 fl, .int .i64 0, .slice a n c] 38)).alloc (.cells #[.int .i64 0] 3)).cell? ⟨w.heap.size, 0, none⟩ = some (.int .i64 6) := (cell_alloc (w.alloc (.cells #[.int .i64 6, .int .i64 fl, .int .i64 0, .slice a n c] 38)) _ w.heap.size 0 (by simp)).trans (by simp)
  have p1 : ((w.alloc (.cells #[.int .i64 6, .int .i64 fl, .int .i64 0, .slice a n c] 38)).alloc (.cells #[.int .i64 0] 3)).cell? ⟨w.heap.size, 1, none⟩ = some (.int .i64 fl) := (cell_alloc (w.alloc (.cells #[.int .i64 6, .int .i64 fl, .int .i64 0, .slice a n c] 38)) _ w.heap.size 1 (by simp)).trans (by simp)
  have p2 : ((w.alloc (.cells #[.int .i64 6, .int .i64 fl, .int .i64 0, .slice a n c] 38)).alloc (.cells #[.int .i64 0] 3)).cell? ⟨w.heap.size, 2, none⟩ = some (.int .i64 0) := (cell_alloc (w.alloc (.cells #[.int .i64 6, .int .i64 fl, .int .i64 0, .slice a n c] 38)) _ w.heap.size 2 (by simp)).trans (by simp)
  have p3 : ((w.alloc (.cells #[.int .i64 6, .int .i64 fl, .int .i64 0, .slice a n c] 38)).alloc (.cells #[.int .i64 0] 3)).cell? ⟨w.heap.size, 3, none⟩ = some (.slice a n c) := (cell_alloc (w.alloc (.cells #[.int .i64 6, .int .i64 fl, .int .i64 0, .slice a n c] 38)) _ w.heap.size 3 (by simp)).trans (by simp)
  have r0 : ((w.alloc (.cells #[.int .i64 6, .int .i64 fl, .int .i64 0, .slice a n c] 38)).alloc (.cells #[.int .i64 0] 3)).cell? ⟨w.heap.size + 1, 0, none⟩ = some (.int .i64 0) := by
    have h : w.heap.size + 1 = (w.alloc (.cells #[.int .i64 6, .int .i64 fl, .int .i64 0, .slice a n c] 38)).heap.size := by simp
    rw [h]; simp
  have rf : ((w.alloc (.cells #[.int .i64 6, .int .i64 fl, .int .i64 0, .slice a n c] 38)).alloc (.cells #[.int .i64 0] 3)).frozen? ⟨w.heap.size + 1, 0, none⟩ = false := by
    have h : w.heap.size + 1 = (w.alloc (.cells #[.int .i64 6, .int .i64 fl, .int .i64 0, .slice a n c] 38)).heap.size := by simp
    rw [h]; simp
  have hs : w.heap.size + 1 < ((w.alloc (.cells #[.int .i64 6, .int .i64 fl, .int .i64 0, .slice a n c] 38)).alloc (.cells #[.int .i64 0] 3)).heap.size := by simp
  generalize ((w.alloc (.cells #[.int .i64 6, .int .i64 fl, .int .i64 0, .slice a n c] 38)).alloc (.cells #[.int .i64 0] 3)) = W0 at *
  go_wp2_with (first
    | (go_at_call 64; refine (HS.out W0).mono ?_; rintro e w2 ⟨rfl, hB2⟩; have q0 := (hB2.cell (p := ⟨w.heap.size, 0, none⟩) (Nat.lt_trans (Nat.lt_succ_self _) hs)).trans p0; have q1 := (hB2.cell (p := ⟨w.heap.size, 1, none⟩) (Nat.lt_trans (Nat.lt_succ_self _) hs)).trans p1; have q2 := (hB2.cell (p := ⟨w.heap.size, 2, none⟩) (Nat.lt_trans (Nat.lt_succ_self _) hs)).trans p2; have q3 := (hB2.cell (p := ⟨w.heap.size, 3, none⟩) (Nat.lt_trans (Nat.lt_succ_self _) hs)).trans p3; have s0 := (hB2.cell (p := ⟨w.heap.size + 1, 0, none⟩) hs).trans r0; have sf := (hB2.frozen (p := ⟨w.heap.size + 1, 0, none⟩) hs).trans rf; have HB2 := Lib.hid (hB0.trans (hB2.mono hB0.size)); have hs2 := Nat.lt_of_lt_of_le hs hB2.size; clear hB2 p0 p1 p2 p3 r0 rf)
    | fail)
  have z0 := World.cell?_setCell_same _ _ (.int .i64 6) s0
  refine bodyPost_ret (v := .int .i64 6) (by simp [results, Tryz.results29, go_sem, z0]) rfl ⟨rfl, ?_⟩
  exact HB2.out.setCell (by simp) _
set_option maxRecDepth 100000 in
set_option maxHeartbeats 4000000 in
theorem check_s7 (fl st : Int) (n : Nat) (a : Option Addr) (c : Nat) (w : World) (hfl : 0 ≤ fl ∧ fl ≤ 255)  (hz : sizesB 7 fl n = false) : Calls Tryz.prog 29 #[.agg #[.int .i64 7, .int .i64 fl, .int .i64 st, .slice a n c]] w fun e w' => e = .returned (.int .i64 6) ∧ Below w.heap.size w w' := by
  have HS := Lib.hid (fun W => sizes_any 7 fl st n a c hfl W)
  rw [hz] at HS
  clear hz hfl
  go_enter Tryz.func29, Tryz.ntmps29
  go_upto_region 13 with fail
  have hB0 : Below w.heap.size w ((w.alloc (.cells #[.int .i64 7, .int .i64 fl, .int .i64 st, .slice a n c] 38)).alloc (.cells #[.int .i64 0] 3)) := ((Below.refl _ _).alloc (Nat.le_refl _) _).alloc (by simp) _
  have p0 : ((w.alloc (.cells #[.int .i64 7, .int .i64 fl, .int .i64 st, .slice a n c] 38)).alloc (.cells #[.int .i64 0] 3)).cell? ⟨w.heap.size, 0, none⟩ = some (.int .i64 7) := (cell_alloc (w.alloc (.cells #[.int .i64 7, .int .i64 fl, .int .i64 st, .slice a n c] 38)) _ w.heap.size 0 (by simp)).trans (by simp)
  have p1 : ((w.alloc (.cells #[.int .i64 7, .int .i64 fl, .int .i64 st, .slice a n c] 38)).alloc (.cells #[.int .i64 0] 3)).cell? ⟨w.heap.size, 1, none⟩ = some (.int .i64 fl) := (cell_alloc (w.alloc (.cells #[.int .i64 7, .int .i64 fl, .int .i64 st, .slice a n c] 38)) _ w.heap.size 1 (by simp)).trans (by simp)
  have p2 : ((w.alloc (.cells #[.int .i64 7, .int .i64 fl, .int .i64 st, .slice a n c] 38)).alloc (.cells #[.int .i64 0] 3)).cell? ⟨w.heap.size, 2, none⟩ = some (.int .i64 st) := (cell_alloc (w.alloc (.cells #[.int .i64 7, .int .i64 fl, .int .i64 st, .slice a n c] 38)) _ w.heap.size 2 (by simp)).trans (by simp)
  have p3 : ((w.alloc (.cells #[.int .i64 7, .int .i64 fl, .int .i64 st, .slice a n c] 38)).alloc (.cells #[.int .i64 0] 3)).cell? ⟨w.heap.size, 3, none⟩ = some (.slice a n c) := (cell_alloc (w.alloc (.cells #[.int .i64 7, .int .i64 fl, .int .i64 st, .slice a n c] 38)) _ w.heap.size 3 (by simp)).trans (by simp)
  have r0 : ((w.alloc (.cells #[.int .i64 7, .int .i64 fl, .int .i64 st, .slice a n c] 38)).alloc (.cells #[.int .i64 0] 3)).cell? ⟨w.heap.size + 1, 0, none⟩ = some (.int .i64 0) := by
    have h : w.heap.size + 1 = (w.alloc (.cells #[.int .i64 7, .int .i64 fl, .int .i64 st, .slice a n c] 38)).heap.size := by simp
    rw [h]; simp
  have rf : ((w.alloc (.cells #[.int .i64 7, .int .i64 fl, .int .i64 st, .slice a n c] 38)).alloc (.cells #[.int .i64 0] 3)).frozen? ⟨w.heap.size + 1, 0, none⟩ = false := by
    have h : w.heap.size + 1 = (w.alloc (.cells #[.int .i64 7, .int .i64 fl, .int .i64 st, .slice a n c] 38)).heap.size := by simp
    rw [h]; simp
  have hs : w.heap.size + 1 < ((w.alloc (.cells #[.int .i64 7, .int .i64 fl, .int .i64 st, .slice a n c] 38)).alloc (.cells #[.int .i64 0] 3)).heap.size := by simp
  generalize ((w.alloc (.cells #[.int .i64 7, .int .i64 fl, .int .i64 st, .slice a n c] 38)).alloc (.cells #[.int .i64 0] 3)) = W0 at *
  go_wp2_with (first
    | (go_at_call 64; refine (HS.out W0).mono ?_; rintro e w2 ⟨rfl, hB2⟩; have q0 := (hB2.cell (p := ⟨w.heap.size, 0, none⟩) (Nat.lt_trans (Nat.lt_succ_self _) hs)).trans p0; have q1 := (hB2.cell (p := ⟨w.heap.size, 1, none⟩) (Nat.lt_trans (Nat.lt_succ_self _) hs)).trans p1; have q2 := (hB2.cell (p := ⟨w.heap.size, 2, none⟩) (Nat.lt_trans (Nat.lt_succ_self _) hs)).trans p2; have q3 := (hB2.cell (p := ⟨w.heap.size, 3, none⟩) (Nat.lt_trans (Nat.lt_succ_self _) hs)).trans p3; have s0 := (hB2.cell (p := ⟨w.heap.size + 1, 0, none⟩) hs).trans r0; have sf := (hB2.frozen (p := ⟨w.heap.size + 1, 0, none⟩) hs).trans rf; have HB2 := Lib.hid (hB0.trans (hB2.mono hB0.size)); have hs2 := Nat.lt_of_lt_of_le hs hB2.size; clear hB2 p0 p1 p2 p3 r0 rf)
    | fail)
  have z0 := World.cell?_setCell_same _ _ (.int .i64 6) s0
  refine bodyPost_ret (v := .int .i64 6) (by simp [results, Tryz.results29, go_sem, z0]) rfl ⟨rfl, ?_⟩
  exact HB2.out.setCell (by simp) _
set_option maxRecDepth 100000 in
set_option maxHeartbeats 4000000 in
theorem check_p8 (k fl st : Int) (n : Nat) (a : Option Addr) (c : Nat) (w : World) (hfl : 0 ≤ fl ∧ fl ≤ 255) (hk : k < 0 ∨ 8 ≤ k) (hz : sizesB k fl n = true) : Calls Tryz.prog 29 #[.agg #[.int .i64 k, .int .i64 fl, .int .i64 st, .slice a n c]] w fun e w' => e = .returned (.int .i64 0) ∧ Below w.heap.size w w' := by
  have HS := Lib.hid (fun W => sizes_any k fl st n a c hfl W)
  rw [hz] at HS
  have b0 : (k == 0) = false := beq_false_of_ne (by omega)
  have b1 : (k == 1) = false := beq_false_of_ne (by omega)
  have b2 : (k == 2) = false := beq_false_of_ne (by omega)
  have b3 : (k == 3) = false := beq_false_of_ne (by omega)
  have b4 : (k == 4) = false := beq_false_of_ne (by omega)
  have b5 : (k == 5) = false := beq_false_of_ne (by omega)
  have b6 : (k == 6) = false := beq_false_of_ne (by omega)
  have b7 : (k == 7) = false := beq_false_of_ne (by omega)
  have hb4 : (k != 4) = true := bne_iff_ne.2 (by omega)
  clear hk
  clear hz hfl
  go_enter Tryz.func29, Tryz.ntmps29
  go_upto_region 13 with fail
  have hB0 : Below w.heap.size w ((w.alloc (.cells #[.int .i64 k, .int .i64 fl, .int .i64 st, .slice a n c] 38)).alloc (.cells #[.int .i64 0] 3)) := ((Below.refl _ _).alloc (Nat.le_refl _) _).alloc (by simp) _
  have p0 : ((w.alloc (.cells #[.int .i64 k, .int .i64 fl, .int .i64 st, .slice a n c] 38)).alloc (.cells #[.int .i64 0] 3)).cell? ⟨w.heap.size, 0, none⟩ = some (.int .i64 k) := (cell_alloc (w.alloc (.cells #[.int .i64 k, .int .i64 fl, .int .i64 st, .slice a n c] 38)) _ w.heap.size 0 (by simp)).trans (by simp)
  have p1 : ((w.alloc (.cells #[.int .i64 k, .int .i64 fl, .int .i64 st, .slice a n c] 38)).alloc (.cells #[.int .i64 0] 3)).cell? ⟨w.heap.size, 1, none⟩ = some (.int .i64 fl) := (cell_alloc (w.alloc (.cells #[.int .i64 k, .int .i64 fl, .int .i64 st, .slice a n c] 38)) _ w.heap.size 1 (by simp)).trans (by simp)
  have p2 : ((w.alloc (.cells #[.int .i64 k, .int .i64 fl, .int .i64 st, .slice a n c] 38)).alloc (.cells #[.int .i64 0] 3)).cell? ⟨w.heap.size, 2, none⟩ = some (.int .i64 st) := (cell_alloc (w.alloc (.cells #[.int .i64 k, .int .i64 fl, .int .i64 st, .slice a n c] 38)) _ w.heap.size 2 (by simp)).trans (by simp)
  have p3 : ((w.alloc (.cells #[.int .i64 k, .int .i64 fl, .int .i64 st, .slice a n c] 38)).alloc (.cells #[.int .i64 0] 3)).cell? ⟨w.heap.size, 3, none⟩ = some (.slice a n c) := (cell_alloc (w.alloc (.cells #[.int .i64 k, .int .i64 fl, .int .i64 st, .slice a n c] 38)) _ w.heap.size 3 (by simp)).trans (by simp)
  have r0 : ((w.alloc (.cells #[.int .i64 k, .int .i64 fl, .int .i64 st, .slice a n c] 38)).alloc (.cells #[.int .i64 0] 3)).cell? ⟨w.heap.size + 1, 0, none⟩ = some (.int .i64 0) := by
    have h : w.heap.size + 1 = (w.alloc (.cells #[.int .i64 k, .int .i64 fl, .int .i64 st, .slice a n c] 38)).heap.size := by simp
    rw [h]; simp
  have rf : ((w.alloc (.cells #[.int .i64 k, .int .i64 fl, .int .i64 st, .slice a n c] 38)).alloc (.cells #[.int .i64 0] 3)).frozen? ⟨w.heap.size + 1, 0, none⟩ = false := by
    have h : w.heap.size + 1 = (w.alloc (.cells #[.int .i64 k, .int .i64 fl, .int .i64 st, .slice a n c] 38)).heap.size := by simp
    rw [h]; simp
  have hs : w.heap.size + 1 < ((w.alloc (.cells #[.int .i64 k, .int .i64 fl, .int .i64 st, .slice a n c] 38)).alloc (.cells #[.int .i64 0] 3)).heap.size := by simp
  generalize ((w.alloc (.cells #[.int .i64 k, .int .i64 fl, .int .i64 st, .slice a n c] 38)).alloc (.cells #[.int .i64 0] 3)) = W0 at *
  go_wp2_with (first
    | (go_at_call 64; refine (HS.out W0).mono ?_; rintro e w2 ⟨rfl, hB2⟩; have q0 := (hB2.cell (p := ⟨w.heap.size, 0, none⟩) (Nat.lt_trans (Nat.lt_succ_self _) hs)).trans p0; have q1 := (hB2.cell (p := ⟨w.heap.size, 1, none⟩) (Nat.lt_trans (Nat.lt_succ_self _) hs)).trans p1; have q2 := (hB2.cell (p := ⟨w.heap.size, 2, none⟩) (Nat.lt_trans (Nat.lt_succ_self _) hs)).trans p2; have q3 := (hB2.cell (p := ⟨w.heap.size, 3, none⟩) (Nat.lt_trans (Nat.lt_succ_self _) hs)).trans p3; have s0 := (hB2.cell (p := ⟨w.heap.size + 1, 0, none⟩) hs).trans r0; have sf := (hB2.frozen (p := ⟨w.heap.size + 1, 0, none⟩) hs).trans rf; have HB2 := Lib.hid (hB0.trans (hB2.mono hB0.size)); have hs2 := Nat.lt_of_lt_of_le hs hB2.size; clear hB2 p0 p1 p2 p3 r0 rf)
    | fail)
  have z0 := World.cell?_setCell_same _ _ (.int .i64 0) s0
  refine bodyPost_ret (v := .int .i64 0) (by simp [results, Tryz.results29, go_sem, z0]) rfl ⟨rfl, ?_⟩
  exact HB2.out.setCell (by simp) _
set_option maxRecDepth 100000 in
set_option maxHeartbeats 4000000 in
theorem check_wz (fl st x : Int) (n : Nat) (a : Option Addr) (c : Nat) (w : World) (hfl : 0 ≤ fl ∧ fl ≤ 255) (hz : sizesB 7 fl n = true) (hw : ∀ W, Below w.heap.size w W → Calls Tryz.prog 65 #[.slice a n c] W fun e w' => e = .returned (.int .i64 x) ∧ Below W.heap.size W w') (hx : x = 0) : Calls Tryz.prog 29 #[.agg #[.int .i64 7, .int .i64 fl, .int .i64 st, .slice a n c]] w fun e w' => e = .returned (.int .i64 1) ∧ Below w.heap.size w w' := by
  have HS := Lib.hid (fun W => sizes_any 7 fl st n a c hfl W)
  rw [hz] at HS
  have HW := Lib.hid hw
  subst hx
  clear hz hfl hw
  go_enter Tryz.func29, Tryz.ntmps29
  go_upto_region 13 with fail
  have hB0 : Below w.heap.size w ((w.alloc (.cells #[.int .i64 7, .int .i64 fl, .int .i64 st, .slice a n c] 38)).alloc (.cells #[.int .i64 0] 3)) := ((Below.refl _ _).alloc (Nat.le_refl _) _).alloc (by simp) _
  have p0 : ((w.alloc (.cells #[.int .i64 7, .int .i64 fl, .int .i64 st, .slice a n c] 38)).alloc (.cells #[.int .i64 0] 3)).cell? ⟨w.heap.size, 0, none⟩ = some (.int .i64 7) := (cell_alloc (w.alloc (.cells #[.int .i64 7, .int .i64 fl, .int .i64 st, .slice a n c] 38)) _ w.heap.size 0 (by simp)).trans (by simp)
  have p1 : ((w.alloc (.cells #[.int .i64 7, .int .i64 fl, .int .i64 st, .slice a n c] 38)).alloc (.cells #[.int .i64 0] 3)).cell? ⟨w.heap.size, 1, none⟩ = some (.int .i64 fl) := (cell_alloc (w.alloc (.cells #[.int .i64 7, .int .i64 fl, .int .i64 st, .slice a n c] 38)) _ w.heap.size 1 (by simp)).trans (by simp)
  have p2 : ((w.alloc (.cells #[.int .i64 7, .int .i64 fl, .int .i64 st, .slice a n c] 38)).alloc (.cells #[.int .i64 0] 3)).cell? ⟨w.heap.size, 2, none⟩ = some (.int .i64 st) := (cell_alloc (w.alloc (.cells #[.int .i64 7, .int .i64 fl, .int .i64 st, .slice a n c] 38)) _ w.heap.size 2 (by simp)).trans (by simp)
  have p3 : ((w.alloc (.cells #[.int .i64 7, .int .i64 fl, .int .i64 st, .slice a n c] 38)).alloc (.cells #[.int .i64 0] 3)).cell? ⟨w.heap.size, 3, none⟩ = some (.slice a n c) := (cell_alloc (w.alloc (.cells #[.int .i64 7, .int .i64 fl, .int .i64 st, .slice a n c] 38)) _ w.heap.size 3 (by simp)).trans (by simp)
  have r0 : ((w.alloc (.cells #[.int .i64 7, .int .i64 fl, .int .i64 st, .slice a n c] 38)).alloc (.cells #[.int .i64 0] 3)).cell? ⟨w.heap.size + 1, 0, none⟩ = some (.int .i64 0) := by
    have h : w.heap.size + 1 = (w.alloc (.cells #[.int .i64 7, .int .i64 fl, .int .i64 st, .slice a n c] 38)).heap.size := by simp
    rw [h]; simp
  have rf : ((w.alloc (.cells #[.int .i64 7, .int .i64 fl, .int .i64 st, .slice a n c] 38)).alloc (.cells #[.int .i64 0] 3)).frozen? ⟨w.heap.size + 1, 0, none⟩ = false := by
    have h : w.heap.size + 1 = (w.alloc (.cells #[.int .i64 7, .int .i64 fl, .int .i64 st, .slice a n c] 38)).heap.size := by simp
    rw [h]; simp
  have hs : w.heap.size + 1 < ((w.alloc (.cells #[.int .i64 7, .int .i64 fl, .int .i64 st, .slice a n c] 38)).alloc (.cells #[.int .i64 0] 3)).heap.size := by simp
  generalize ((w.alloc (.cells #[.int .i64 7, .int .i64 fl, .int .i64 st, .slice a n c] 38)).alloc (.cells #[.int .i64 0] 3)) = W0 at *
  go_wp2_with (first
    | (go_at_call 64; refine (HS.out W0).mono ?_; rintro e w2 ⟨rfl, hB2⟩; have q0 := (hB2.cell (p := ⟨w.heap.size, 0, none⟩) (Nat.lt_trans (Nat.lt_succ_self _) hs)).trans p0; have q1 := (hB2.cell (p := ⟨w.heap.size, 1, none⟩) (Nat.lt_trans (Nat.lt_succ_self _) hs)).trans p1; have q2 := (hB2.cell (p := ⟨w.heap.size, 2, none⟩) (Nat.lt_trans (Nat.lt_succ_self _) hs)).trans p2; have q3 := (hB2.cell (p := ⟨w.heap.size, 3, none⟩) (Nat.lt_trans (Nat.lt_succ_self _) hs)).trans p3; have s0 := (hB2.cell (p := ⟨w.heap.size + 1, 0, none⟩) hs).trans r0; have sf := (hB2.frozen (p := ⟨w.heap.size + 1, 0, none⟩) hs).trans rf; have HB2 := Lib.hid (hB0.trans (hB2.mono hB0.size)); have hs2 := Nat.lt_of_lt_of_le hs hB2.size; clear hB2 p0 p1 p2 p3 r0 rf)
    | (go_at_call 65; refine (HW.out w2 HB2.out).mono ?_; rintro e w3 ⟨rfl, hB3⟩; have t0 := (hB3.cell (p := ⟨w.heap.size, 0, none⟩) (Nat.lt_trans (Nat.lt_succ_self _) hs2)).trans q0; have t3 := (hB3.cell (p := ⟨w.heap.size, 3, none⟩) (Nat.lt_trans (Nat.lt_succ_self _) hs2)).trans q3; have u0 := (hB3.cell (p := ⟨w.heap.size + 1, 0, none⟩) hs2).trans s0; have uf := (hB3.frozen (p := ⟨w.heap.size + 1, 0, none⟩) hs2).trans sf; have hs3 := Nat.lt_of_lt_of_le hs2 hB3.size; have HB3 := Lib.hid (HB2.out.trans (hB3.mono HB2.out.size)); clear hB3 q0 q1 q2 q3 s0 sf)
    | (go_at_call 65; refine (HW.out w3 HB3.out).mono ?_; rintro e w4 ⟨rfl, hB4⟩; have x0 := (hB4.cell (p := ⟨w.heap.size, 0, none⟩) (Nat.lt_trans (Nat.lt_succ_self _) hs3)).trans t0; have y0 := (hB4.cell (p := ⟨w.heap.size + 1, 0, none⟩) hs3).trans u0; have yf := (hB4.frozen (p := ⟨w.heap.size + 1, 0, none⟩) hs3).trans uf; have HB4 := Lib.hid (HB3.out.trans (hB4.mono HB3.out.size)); clear hB4 t0 t3 u0 uf)
    | fail)
  have z0 := World.cell?_setCell_same _ _ (.int .i64 1) u0
  refine bodyPost_ret (v := .int .i64 1) (by simp [results, Tryz.results29, go_sem, z0]) rfl ⟨rfl, ?_⟩
  exact HB3.out.setCell (by simp) _
set_option maxRecDepth 100000 in
set_option maxHeartbeats 4000000 in
theorem check_wg (fl st x : Int) (n : Nat) (a : Option Addr) (c : Nat) (w : World) (hfl : 0 ≤ fl ∧ fl ≤ 255) (hz : sizesB 7 fl n = true) (hw : ∀ W, Below w.heap.size w W → Calls Tryz.prog 65 #[.slice a n c] W fun e w' => e = .returned (.int .i64 x) ∧ Below W.heap.size W w') (hx : 2147483647 < x) : Calls Tryz.prog 29 #[.agg #[.int .i64 7, .int .i64 fl, .int .i64 st, .slice a n c]] w fun e w' => e = .returned (.int .i64 1) ∧ Below w.heap.size w w' := by
  have HS := Lib.hid (fun W => sizes_any 7 fl st n a c hfl W)
  rw [hz] at HS
  have HW := Lib.hid hw
  have g1 : (x == 0) = false := beq_false_of_ne (by omega)
  have g2 : decide (2147483647 < x) = true := decide_eq_true hx
  clear hz hfl hw
  go_enter Tryz.func29, Tryz.ntmps29
  go_upto_region 13 with fail
  have hB0 : Below w.heap.size w ((w.alloc (.cells #[.int .i64 7, .int .i64 fl, .int .i64 st, .slice a n c] 38)).alloc (.cells #[.int .i64 0] 3)) := ((Below.refl _ _).alloc (Nat.le_refl _) _).alloc (by simp) _
  have p0 : ((w.alloc (.cells #[.int .i64 7, .int .i64 fl, .int .i64 st, .slice a n c] 38)).alloc (.cells #[.int .i64 0] 3)).cell? ⟨w.heap.size, 0, none⟩ = some (.int .i64 7) := (cell_alloc (w.alloc (.cells #[.int .i64 7, .int .i64 fl, .int .i64 st, .slice a n c] 38)) _ w.heap.size 0 (by simp)).trans (by simp)
  have p1 : ((w.alloc (.cells #[.int .i64 7, .int .i64 fl, .int .i64 st, .slice a n c] 38)).alloc (.cells #[.int .i64 0] 3)).cell? ⟨w.heap.size, 1, none⟩ = some (.int .i64 fl) := (cell_alloc (w.alloc (.cells #[.int .i64 7, .int .i64 fl, .int .i64 st, .slice a n c] 38)) _ w.heap.size 1 (by simp)).trans (by simp)
  have p2 : ((w.alloc (.cells #[.int .i64 7, .int .i64 fl, .int .i64 st, .slice a n c] 38)).alloc (.cells #[.int .i64 0] 3)).cell? ⟨w.heap.size, 2, none⟩ = some (.int .i64 st) := (cell_alloc (w.alloc (.cells #[.int .i64 7, .int .i64 fl, .int .i64 st, .slice a n c] 38)) _ w.heap.size 2 (by simp)).trans (by simp)
  have p3 : ((w.alloc (.cells #[.int .i64 7, .int .i64 fl, .int .i64 st, .slice a n c] 38)).alloc (.cells #[.int .i64 0] 3)).cell? ⟨w.heap.size, 3, none⟩ = some (.slice a n c) := (cell_alloc (w.alloc (.cells #[.int .i64 7, .int .i64 fl, .int .i64 st, .slice a n c] 38)) _ w.heap.size 3 (by simp)).trans (by simp)
  have r0 : ((w.alloc (.cells #[.int .i64 7, .int .i64 fl, .int .i64 st, .slice a n c] 38)).alloc (.cells #[.int .i64 0] 3)).cell? ⟨w.heap.size + 1, 0, none⟩ = some (.int .i64 0) := by
    have h : w.heap.size + 1 = (w.alloc (.cells #[.int .i64 7, .int .i64 fl, .int .i64 st, .slice a n c] 38)).heap.size := by simp
    rw [h]; simp
  have rf : ((w.alloc (.cells #[.int .i64 7, .int .i64 fl, .int .i64 st, .slice a n c] 38)).alloc (.cells #[.int .i64 0] 3)).frozen? ⟨w.heap.size + 1, 0, none⟩ = false := by
    have h : w.heap.size + 1 = (w.alloc (.cells #[.int .i64 7, .int .i64 fl, .int .i64 st, .slice a n c] 38)).heap.size := by simp
    rw [h]; simp
  have hs : w.heap.size + 1 < ((w.alloc (.cells #[.int .i64 7, .int .i64 fl, .int .i64 st, .slice a n c] 38)).alloc (.cells #[.int .i64 0] 3)).heap.size := by simp
  generalize ((w.alloc (.cells #[.int .i64 7, .int .i64 fl, .int .i64 st, .slice a n c] 38)).alloc (.cells #[.int .i64 0] 3)) = W0 at *
  go_wp2_with (first
    | (go_at_call 64; refine (HS.out W0).mono ?_; rintro e w2 ⟨rfl, hB2⟩; have q0 := (hB2.cell (p := ⟨w.heap.size, 0, none⟩) (Nat.lt_trans (Nat.lt_succ_self _) hs)).trans p0; have q1 := (hB2.cell (p := ⟨w.heap.size, 1, none⟩) (Nat.lt_trans (Nat.lt_succ_self _) hs)).trans p1; have q2 := (hB2.cell (p := ⟨w.heap.size, 2, none⟩) (Nat.lt_trans (Nat.lt_succ_self _) hs)).trans p2; have q3 := (hB2.cell (p := ⟨w.heap.size, 3, none⟩) (Nat.lt_trans (Nat.lt_succ_self _) hs)).trans p3; have s0 := (hB2.cell (p := ⟨w.heap.size + 1, 0, none⟩) hs).trans r0; have sf := (hB2.frozen (p := ⟨w.heap.size + 1, 0, none⟩) hs).trans rf; have HB2 := Lib.hid (hB0.trans (hB2.mono hB0.size)); have hs2 := Nat.lt_of_lt_of_le hs hB2.size; clear hB2 p0 p1 p2 p3 r0 rf)
    | (go_at_call 65; refine (HW.out w2 HB2.out).mono ?_; rintro e w3 ⟨rfl, hB3⟩; have t0 := (hB3.cell (p := ⟨w.heap.size, 0, none⟩) (Nat.lt_trans (Nat.lt_succ_self _) hs2)).trans q0; have t3 := (hB3.cell (p := ⟨w.heap.size, 3, none⟩) (Nat.lt_trans (Nat.lt_succ_self _) hs2)).trans q3; have u0 := (hB3.cell (p := ⟨w.heap.size + 1, 0, none⟩) hs2).trans s0; have uf := (hB3.frozen (p := ⟨w.heap.size + 1, 0, none⟩) hs2).trans sf; have hs3 := Nat.lt_of_lt_of_le hs2 hB3.size; have HB3 := Lib.hid (HB2.out.trans (hB3.mono HB2.out.size)); clear hB3 q0 q1 q2 q3 s0 sf)
    | (go_at_call 65; refine (HW.out w3 HB3.out).mono ?_; rintro e w4 ⟨rfl, hB4⟩; have x0 := (hB4.cell (p := ⟨w.heap.size, 0, none⟩) (Nat.lt_trans (Nat.lt_succ_self _) hs3)).trans t0; have y0 := (hB4.cell (p := ⟨w.heap.size + 1, 0, none⟩) hs3).trans u0; have yf := (hB4.frozen (p := ⟨w.heap.size + 1, 0, none⟩) hs3).trans uf; have HB4 := Lib.hid (HB3.out.trans (hB4.mono HB3.out.size)); clear hB4 t0 t3 u0 uf)
    | fail)
  have z0 := World.cell?_setCell_same _ _ (.int .i64 1) y0
  refine bodyPost_ret (v := .int .i64 1) (by simp [results, Tryz.results29, go_sem, z0]) rfl ⟨rfl, ?_⟩
  exact HB4.out.setCell (by simp) _
set_option maxRecDepth 100000 in
set_option maxHeartbeats 4000000 in
theorem check_wo (fl st x : Int) (n : Nat) (a : Option Addr) (c : Nat) (w : World) (hfl : 0 ≤ fl ∧ fl ≤ 255) (hz : sizesB 7 fl n = true) (hw : ∀ W, Below w.heap.size w W → Calls Tryz.prog 65 #[.slice a n c] W fun e w' => e = .returned (.int .i64 x) ∧ Below W.heap.size W w') (hx : 0 < x ∧ x ≤ 2147483647) : Calls Tryz.prog 29 #[.agg #[.int .i64 7, .int .i64 fl, .int .i64 st, .slice a n c]] w fun e w' => e = .returned (.int .i64 0) ∧ Below w.heap.size w w' := by
  have HS := Lib.hid (fun W => sizes_any 7 fl st n a c hfl W)
  rw [hz] at HS
  have HW := Lib.hid hw
  have g1 : (x == 0) = false := beq_false_of_ne (by omega)
  have g2 : ¬ 2147483647 < x := by omega
  have g3 : decide (2147483647 < x) = false := decide_eq_false g2
  clear hx
  clear hz hfl hw
  go_enter Tryz.func29, Tryz.ntmps29
  go_upto_region 13 with fail
  have hB0 : Below w.heap.size w ((w.alloc (.cells #[.int .i64 7, .int .i64 fl, .int .i64 st, .slice a n c] 38)).alloc (.cells #[.int .i64 0] 3)) := ((Below.refl _ _).alloc (Nat.le_refl _) _).alloc (by simp) _
  have p0 : ((w.alloc (.cells #[.int .i64 7, .int .i64 fl, .int .i64 st, .slice a n c] 38)).alloc (.cells #[.int .i64 0] 3)).cell? ⟨w.heap.size, 0, none⟩ = some (.int .i64 7) := (cell_alloc (w.alloc (.cells #[.int .i64 7, .int .i64 fl, .int .i64 st, .slice a n c] 38)) _ w.heap.size 0 (by simp)).trans (by simp)
  have p1 : ((w.alloc (.cells #[.int .i64 7, .int .i64 fl, .int .i64 st, .slice a n c] 38)).alloc (.cells #[.int .i64 0] 3)).cell? ⟨w.heap.size, 1, none⟩ = some (.int .i64 fl) := (cell_alloc (w.alloc (.cells #[.int .i64 7, .int .i64 fl, .int .i64 st, .slice a n c] 38)) _ w.heap.size 1 (by simp)).trans (by simp)
  have p2 : ((w.alloc (.cells #[.int .i64 7, .int .i64 fl, .int .i64 st, .slice a n c] 38)).alloc (.cells #[.int .i64 0] 3)).cell? ⟨w.heap.size, 2, none⟩ = some (.int .i64 st) := (cell_alloc (w.alloc (.cells #[.int .i64 7, .int .i64 fl, .int .i64 st, .slice a n c] 38)) _ w.heap.size 2 (by simp)).trans (by simp)
  have p3 : ((w.alloc (.cells #[.int .i64 7, .int .i64 fl, .int .i64 st, .slice a n c] 38)).alloc (.cells #[.int .i64 0] 3)).cell? ⟨w.heap.size, 3, none⟩ = some (.slice a n c) := (cell_alloc (w.alloc (.cells #[.int .i64 7, .int .i64 fl, .int .i64 st, .slice a n c] 38)) _ w.heap.size 3 (by simp)).trans (by simp)
  have r0 : ((w.alloc (.cells #[.int .i64 7, .int .i64 fl, .int .i64 st, .slice a n c] 38)).alloc (.cells #[.int .i64 0] 3)).cell? ⟨w.heap.size + 1, 0, none⟩ = some (.int .i64 0) := by
    have h : w.heap.size + 1 = (w.alloc (.cells #[.int .i64 7, .int .i64 fl, .int .i64 st, .slice a n c] 38)).heap.size := by simp
    rw [h]; simp
  have rf : ((w.alloc (.cells #[.int .i64 7, .int .i64 fl, .int .i64 st, .slice a n c] 38)).alloc (.cells #[.int .i64 0] 3)).frozen? ⟨w.heap.size + 1, 0, none⟩ = false := by
    have h : w.heap.size + 1 = (w.alloc (.cells #[.int .i64 7, .int .i64 fl, .int .i64 st, .slice a n c] 38)).heap.size := by simp
    rw [h]; simp
  have hs : w.heap.size + 1 < ((w.alloc (.cells #[.int .i64 7, .int .i64 fl, .int .i64 st, .slice a n c] 38)).alloc (.cells #[.int .i64 0] 3)).heap.size := by simp
  generalize ((w.alloc (.cells #[.int .i64 7, .int .i64 fl, .int .i64 st, .slice a n c] 38)).alloc (.cells #[.int .i64 0] 3)) = W0 at *
  go_wp2_with (first
    | (go_at_call 64; refine (HS.out W0).mono ?_; rintro e w2 ⟨rfl, hB2⟩; have q0 := (hB2.cell (p := ⟨w.heap.size, 0, none⟩) (Nat.lt_trans (Nat.lt_succ_self _) hs)).trans p0; have q1 := (hB2.cell (p := ⟨w.heap.size, 1, none⟩) (Nat.lt_trans (Nat.lt_succ_self _) hs)).trans p1; have q2 := (hB2.cell (p := ⟨w.heap.size, 2, none⟩) (Nat.lt_trans (Nat.lt_succ_self _) hs)).trans p2; have q3 := (hB2.cell (p := ⟨w.heap.size, 3, none⟩) (Nat.lt_trans (Nat.lt_succ_self _) hs)).trans p3; have s0 := (hB2.cell (p := ⟨w.heap.size + 1, 0, none⟩) hs).trans r0; have sf := (hB2.frozen (p := ⟨w.heap.size + 1, 0, none⟩) hs).trans rf; have HB2 := Lib.hid (hB0.trans (hB2.mono hB0.size)); have hs2 := Nat.lt_of_lt_of_le hs hB2.size; clear hB2 p0 p1 p2 p3 r0 rf)
    | (go_at_call 65; refine (HW.out w2 HB2.out).mono ?_; rintro e w3 ⟨rfl, hB3⟩; have t0 := (hB3.cell (p := ⟨w.heap.size, 0, none⟩) (Nat.lt_trans (Nat.lt_succ_self _) hs2)).trans q0; have t3 := (hB3.cell (p := ⟨w.heap.size, 3, none⟩) (Nat.lt_trans (Nat.lt_succ_self _) hs2)).trans q3; have u0 := (hB3.cell (p := ⟨w.heap.size + 1, 0, none⟩) hs2).trans s0; have uf := (hB3.frozen (p := ⟨w.heap.size + 1, 0, none⟩) hs2).trans sf; have hs3 := Nat.lt_of_lt_of_le hs2 hB3.size; have HB3 := Lib.hid (HB2.out.trans (hB3.mono HB2.out.size)); clear hB3 q0 q1 q2 q3 s0 sf)
    | (go_at_call 65; refine (HW.out w3 HB3.out).mono ?_; rintro e w4 ⟨rfl, hB4⟩; have x0 := (hB4.cell (p := ⟨w.heap.size, 0, none⟩) (Nat.lt_trans (Nat.lt_succ_self _) hs3)).trans t0; have y0 := (hB4.cell (p := ⟨w.heap.size + 1, 0, none⟩) hs3).trans u0; have yf := (hB4.frozen (p := ⟨w.heap.size + 1, 0, none⟩) hs3).trans uf; have HB4 := Lib.hid (HB3.out.trans (hB4.mono HB3.out.size)); clear hB4 t0 t3 u0 uf)
    | fail)
  have z0 := World.cell?_setCell_same _ _ (.int .i64 0) y0
  refine bodyPost_ret (v := .int .i64 0) (by simp [results, Tryz.results29, go_sem, z0]) rfl ⟨rfl, ?_⟩
  exact HB4.out.setCell (by simp) _
end Go.Proofs.YtegngpingfjedaaGreatDoor.ConnS

/- frame.Check of settings, exactly; of any frame. -/
namespace Go.Proofs.YtegngpingfjedaaGreatDoor.ConnS
open Go.RowKit Go.Shelf ModL ConnR BA WireBig SlicesB FrameC ChunkI
set_option linter.unusedVariables false
set_option linter.unusedSimpArgs false

attribute [local go_sem] Oper.semAt_some
/-- slices.Chunk gives its pieces, one by one; who stops has seen the first of them. -/
theorem chunk_stopsS {α : Type} (val : α → Value) (f : Nat → α) (n : Nat) (hn : 1 ≤ n) (Bs Bn len cap sz : Nat) (b off : Nat) (hlc : len ≤ cap ∧ cap ≤ 9223372036854775807) (hsz : 1 ≤ sz) (hreach : len ≤ 1000000 ∧ sz ≤ 1000000) (w : World) (hbs : Bs < w.heap.size) (hbn : Bn < w.heap.size)
    (hf : ∀ k, k < pieces len sz → val (f k) = piece b off len sz k) (hBs : w.cell? ⟨Bs, 0, none⟩ = some (.slice (some ⟨b, off, none⟩) len cap)) (hBn : w.cell? ⟨Bn, 0, none⟩ = some (.int .i64 sz)) :
    SeqStopsK Fence.wide n Tryz.prog 106 #[.pointer (some ⟨Bs, 0, none⟩), .pointer (some ⟨Bn, 0, none⟩)] (fun x : α => #[val x]) (KpC Bs Bn) (fun ys => ys = upto f (pieces len sz)) (fun pre => ∃ k, k ≤ pieces len sz ∧ pre = upto f k) (pieces len sz) w := fun l J Jx W hW hJ _ hY h0 => by
  have hBs' := (hW.cell (p := ⟨Bs, 0, none⟩) (by simp only; omega)).trans hBs
  have hBn' := (hW.cell (p := ⟨Bn, 0, none⟩) (by simp only; omega)).trans hBn
  refine (chunk1_in val f n hn l Bs Bn b off len cap sz hlc hsz hreach hf J Jx (fun pre W1 m hj => hJ pre W1 (World.drewN W1 m) none hj ⟨rfl, rfl, rfl, Nat.le_refl _, fun _ _ _ => rfl⟩ (fun r e => by cases e)) hY W hBs' hBn' h0).mono ?_
  rintro e W' ⟨he, ⟨ys, rfl, hj⟩ | ⟨pre, hp, hj⟩⟩
  · exact ⟨he, .inl ⟨_, rfl, hj⟩⟩
  · exact ⟨he, .inr ⟨_, hp, hj⟩⟩
set_option maxRecDepth 100000 in
theorem slice_at2 (bb off : Nat) (W : World) : (Instr.slice 30 (.slice (some ⟨bb, off, none⟩) 6 6) (some (.int .i64 2)) none none).run Tryz.prog W = .ok (.slice (some ⟨bb, off + 2, none⟩) 4 4) W := by
  have hu : Tryz.prog.underlying 30 = some (.slice (Tryz.prog.elem 30)) := Tryz.underlying30
  have hs : (sizeOf (Tryz.prog.elem 30)).run Tryz.prog W = .ok 1 W := by kernel_rfl
  rw [run_slice_l (P := Tryz.prog) W 30 (some ⟨bb, off, none⟩) 6 6 hu .i64 2 (by omega) (by omega), hs]
  simp only [Result.andThen, sliced]
  have e1 : ((2 : Int)).toNat = 2 := rfl
  rw [e1, Nat.mul_one, if_neg (by omega)]
  simp [Addr.add]
theorem lastZ {f : Nat → Int} {n k : Nat} {p : List Nat} {x : Nat} (hk : k ≤ n) (hp : upto (fun i => i) k = p ++ [x]) (h0 : ∀ y ∈ p, f y = 0) (hx : f x ≠ 0) : firstC ((List.range n).map f) = f x := by
  have e : upto (fun i : Nat => i) k = List.range k := by simp [upto]
  rw [e] at hp
  obtain ⟨r, hr⟩ : ∃ r, List.range n = List.range k ++ r := by
    obtain ⟨m, rfl⟩ := Nat.exists_eq_add_of_le hk
    exact ⟨_, List.range_add⟩
  rw [hr, hp, List.append_assoc, List.map_append, List.cons_append, List.nil_append, List.map_cons]
  exact firstC_some _ _ _ (fun y hy => by obtain ⟨z, hz, rfl⟩ := List.mem_map.1 hy; exact h0 z hz) hx
set_option maxRecDepth 100000 in
set_option maxHeartbeats 8000000 in
theorem check_l (fl : Int) (l : List Int) (hn0 : 0 < l.length) (h6 : l.length % 6 = 0) (hle : l.length ≤ 1024) (hby : Args.ByteL l) (b off c : Nat) (hfl : 0 ≤ fl ∧ fl ≤ 255) (hz : sizesB 4 fl l.length = true) (w : World) (hB : BytesAt w (.slice (some ⟨b, off, none⟩) l.length c) l) :
    Calls Tryz.prog 29 #[.agg #[.int .i64 4, .int .i64 fl, .int .i64 0, .slice (some ⟨b, off, none⟩) l.length c]] w fun e w' => e = .returned (.int .i64 (setsS l)) ∧ Below w.heap.size w w' := by
  have HS := Lib.hid (fun W => sizes_any 4 fl 0 l.length (some ⟨b, off, none⟩) c hfl W)
  rw [hz] at HS
  have HBX := Lib.hid hB
  have HBY := Lib.hid hby
  have HLE := Lib.hid (And.intro hn0 (And.intro h6 hle))
  obtain ⟨a, ha⟩ : ∃ a : Option Addr, a = some ⟨b, off, none⟩ := ⟨_, rfl⟩
  obtain ⟨_, _, e9, hcap1, hcap2, -, -⟩ := hB.open
  simp only [Value.slice.injEq] at e9
  obtain ⟨-, -, rfl⟩ := e9
  have HCAP := Lib.hid (And.intro hcap1 hcap2)
  clear hz hfl hB hby hn0 h6 hle hcap1 hcap2
  have HA := Lib.hid ha
  rw [← ha] at HS ⊢
  clear ha
  obtain ⟨n, hn⟩ : ∃ n, l.length = n := ⟨_, rfl⟩
  have HN := Lib.hid hn
  rw [hn] at HS ⊢
  clear hn
  have HCH := Lib.hid (fun W => (callsIn_wide (n := 9)).1 (chunk_in Fence.wide 9 trivial rfl a n c 6 (by decide) W))
  refine (callsIn_wide (n := 9)).1 ?_
  refine callsIn_of_wp_marks Tryz.func29 rfl trivial ?_ rfl
  simp only [Tryz.ntmps29, List.size_toArray, List.length_cons, List.length_nil, Nat.reduceAdd, Nat.reduceSub, Array.replicate_succ, Array.replicate_zero, List.push_toArray, List.append_toArray, List.nil_append, List.cons_append]
  refine (wpIn_wide (n := 9)).2 ?_
  go_upto_region 13 with fail
  have hB0 : Below w.heap.size w ((w.alloc (.cells #[.int .i64 4, .int .i64 fl, .int .i64 0, .slice a n c] 38)).alloc (.cells #[.int .i64 0] 3)) := ((Below.refl _ _).alloc (Nat.le_refl _) _).alloc (by simp) _
  have p0 : ((w.alloc (.cells #[.int .i64 4, .int .i64 fl, .int .i64 0, .slice a n c] 38)).alloc (.cells #[.int .i64 0] 3)).cell? ⟨w.heap.size, 0, none⟩ = some (.int .i64 4) := (cell_alloc (w.alloc (.cells #[.int .i64 4, .int .i64 fl, .int .i64 0, .slice a n c] 38)) _ w.heap.size 0 (by simp)).trans (by simp)
  have p1 : ((w.alloc (.cells #[.int .i64 4, .int .i64 fl, .int .i64 0, .slice a n c] 38)).alloc (.cells #[.int .i64 0] 3)).cell? ⟨w.heap.size, 1, none⟩ = some (.int .i64 fl) := (cell_alloc (w.alloc (.cells #[.int .i64 4, .int .i64 fl, .int .i64 0, .slice a n c] 38)) _ w.heap.size 1 (by simp)).trans (by simp)
  have p2 : ((w.alloc (.cells #[.int .i64 4, .int .i64 fl, .int .i64 0, .slice a n c] 38)).alloc (.cells #[.int .i64 0] 3)).cell? ⟨w.heap.size, 2, none⟩ = some (.int .i64 0) := (cell_alloc (w.alloc (.cells #[.int .i64 4, .int .i64 fl, .int .i64 0, .slice a n c] 38)) _ w.heap.size 2 (by simp)).trans (by simp)
  have p3 : ((w.alloc (.cells #[.int .i64 4, .int .i64 fl, .int .i64 0, .slice a n c] 38)).alloc (.cells #[.int .i64 0] 3)).cell? ⟨w.heap.size, 3, none⟩ = some (.slice a n c) := (cell_alloc (w.alloc (.cells #[.int .i64 4, .int .i64 fl, .int .i64 0, .slice a n c] 38)) _ w.heap.size 3 (by simp)).trans (by simp)
  have r0 : ((w.alloc (.cells #[.int .i64 4, .int .i64 fl, .int .i64 0, .slice a n c] 38)).alloc (.cells #[.int .i64 0] 3)).cell? ⟨w.heap.size + 1, 0, none⟩ = some (.int .i64 0) := by
    have h : w.heap.size + 1 = (w.alloc (.cells #[.int .i64 4, .int .i64 fl, .int .i64 0, .slice a n c] 38)).heap.size := by simp
    rw [h]; simp
  have rf : ((w.alloc (.cells #[.int .i64 4, .int .i64 fl, .int .i64 0, .slice a n c] 38)).alloc (.cells #[.int .i64 0] 3)).frozen? ⟨w.heap.size + 1, 0, none⟩ = false := by
    have h : w.heap.size + 1 = (w.alloc (.cells #[.int .i64 4, .int .i64 fl, .int .i64 0, .slice a n c] 38)).heap.size := by simp
    rw [h]; simp
  have hs : w.heap.size + 1 < ((w.alloc (.cells #[.int .i64 4, .int .i64 fl, .int .i64 0, .slice a n c] 38)).alloc (.cells #[.int .i64 0] 3)).heap.size := by simp
  generalize ((w.alloc (.cells #[.int .i64 4, .int .i64 fl, .int .i64 0, .slice a n c] 38)).alloc (.cells #[.int .i64 0] 3)) = W0 at *
  go_wp2_with (first
    | (go_at_call 64; refine (HS.out W0).mono ?_; rintro e w2 ⟨rfl, hB2⟩; have q0 := (hB2.cell (p := ⟨w.heap.size, 0, none⟩) (Nat.lt_trans (Nat.lt_succ_self _) hs)).trans p0; have q1 := (hB2.cell (p := ⟨w.heap.size, 1, none⟩) (Nat.lt_trans (Nat.lt_succ_self _) hs)).trans p1; have q2 := (hB2.cell (p := ⟨w.heap.size, 2, none⟩) (Nat.lt_trans (Nat.lt_succ_self _) hs)).trans p2; have q3 := (hB2.cell (p := ⟨w.heap.size, 3, none⟩) (Nat.lt_trans (Nat.lt_succ_self _) hs)).trans p3; have s0 := (hB2.cell (p := ⟨w.heap.size + 1, 0, none⟩) hs).trans r0; have sf := (hB2.frozen (p := ⟨w.heap.size + 1, 0, none⟩) hs).trans rf; have HB2 := Lib.hid (hB0.trans (hB2.mono hB0.size)); have hs2 := Nat.lt_of_lt_of_le hs hB2.size; clear hB2 p0 p1 p2 p3 r0 rf)
    | (go_at_call 66; refine (HCH.out _).mono ?_; rintro e w' ⟨rfl, rfl⟩)
    | fail)
  have hB1 : Below w2.heap.size w2 ((w2.alloc (.cells #[.slice a n c] 30)).alloc (.cells #[.int .i64 6] 3)) := ((Below.refl _ _).alloc (Nat.le_refl _) _).alloc (by simp) _
  have hcs : ((w2.alloc (.cells #[.slice a n c] 30)).alloc (.cells #[.int .i64 6] 3)).cell? ⟨w2.heap.size, 0, none⟩ = some (.slice a n c) := (cell_alloc (w2.alloc (.cells #[.slice a n c] 30)) _ w2.heap.size 0 (by simp)).trans (by simp)
  have hcn : ((w2.alloc (.cells #[.slice a n c] 30)).alloc (.cells #[.int .i64 6] 3)).cell? ⟨w2.heap.size + 1, 0, none⟩ = some (.int .i64 6) := by
    have h : w2.heap.size + 1 = (w2.alloc (.cells #[.slice a n c] 30)).heap.size := by simp
    rw [h]; simp
  have hsz : ((w2.alloc (.cells #[.slice a n c] 30)).alloc (.cells #[.int .i64 6] 3)).heap.size = w2.heap.size + 2 := by simp
  have t0 := (hB1.cell (p := ⟨w.heap.size + 1, 0, none⟩) hs2).trans s0
  have tf := (hB1.frozen (p := ⟨w.heap.size + 1, 0, none⟩) hs2).trans sf
  have HB1 := Lib.hid (HB2.out.trans (hB1.mono HB2.out.size))
  clear hB1 s0 sf q0 q1 q2 q3 HS HCH hs hB0
  generalize ((w2.alloc (.cells #[.slice a n c] 30)).alloc (.cells #[.int .i64 6] 3)) = W1 at *
  have HX1 : Hid (BytesAt W1 (.slice (some ⟨b, off, none⟩) l.length c) l) := HBX.out.below HB1.out
  have hn1 := HN.out
  have hbd := HLE.out
  rw [hn1] at hbd
  obtain ⟨hbd1, hbd2, hbd3⟩ := hbd
  have hpz : pieces n 6 = n / 6 := by unfold pieces; omega
  have hap := HA.out
  subst hap
  have hst := chunk_stopsS (fun k : Nat => piece b off n 6 (min k (n / 6 - 1))) (fun k => k) (9 - 1) (by decide) w2.heap.size (w2.heap.size + 1) n c 6 b off (by have := HCAP.out; rw [hn1] at this; exact this) (by decide) ⟨by omega, by omega⟩ W1 (by omega) (by omega) (fun k hk => by rw [hpz] at hk; rw [Nat.min_eq_left (by omega)]) hcs hcn
  have hs1 : w.heap.size + 1 < W1.heap.size := by omega
  have HPZ := Lib.hid hpz
  have HHS := Lib.hid (And.intro hsz (And.intro hs2 hs1))
  clear hpz hbd1 hbd2 hbd3 hn1 hcs hcn
  refine (wpIn_wide (n := 9)).1 ?_
  refine wpIn_rangeFunc_ownG (α := Nat) rfl (by decide) (gf := 106) (lb := #[.pointer (some ⟨w2.heap.size, 0, none⟩), .pointer (some ⟨w2.heap.size + 1, 0, none⟩)]) rfl trivial (enters_of Tryz.func106 (by kernel_rfl) rfl) hst (fun h k => h.trans k) (KpC.put (by omega) (by omega)) (Below.refl _ _) (fun _ => rfl)
    (fun pre W => (∀ y ∈ pre, setC l (min y (n / 6 - 1)) = 0) ∧ Below W1.heap.size W1 W)
    (fun c1 pre W => c1 = .ret ∧ ∃ p x, pre = p ++ [x] ∧ (∀ y ∈ p, setC l (min y (n / 6 - 1)) = 0) ∧ setC l (min x (n / 6 - 1)) ≠ 0 ∧ W.cell? ⟨w.heap.size + 1, 0, none⟩ = some (.int .i64 (setC l (min x (n / 6 - 1)))) ∧ Mod (fun k => k = w.heap.size + 1) W1 W)
    (OwnFrom.and (ownFrom_pure _ _) (ownFrom_below (Nat.le_refl _) (Nat.le_refl _)))
    ?ownx ⟨fun _ h => (by cases h), Below.refl _ _⟩ (fun x => { tmps := #[.agg #[.int .i64 4, .int .i64 fl, .int .i64 0, .slice (some ⟨b, off, none⟩) n c], .pointer (some ⟨w.heap.size, 0, none⟩), .pointer (some ⟨w.heap.size + 1, 0, none⟩), piece b off n 6 (min x (n / 6 - 1)), undef, undef, .pointer (some ⟨w.heap.size, 0, none⟩), .int .i64 4, .bool false, .bool false, .bool false, .bool false, .bool false, undef, undef, undef, .bool true, .bool true, undef, undef, .pointer (some ⟨w.heap.size, 2, none⟩), .int .i64 0, .bool false, .bool false, .agg #[.int .i64 4, .int .i64 fl, .int .i64 0, .slice (some ⟨b, off, none⟩) n c], .bool true, .bool false, .bool false, .pointer (some ⟨w.heap.size, 0, none⟩), .int .i64 4, .bool false, .bool false, undef, undef, undef, undef, undef, undef, undef, undef, undef, undef, .bool false, .bool false, .pointer (some ⟨w.heap.size, 0, none⟩), .int .i64 4, .bool false, .pointer (some ⟨w.heap.size, 3, none⟩), .slice (some ⟨b, off, none⟩) n c, .func (.func 106) #[] #[.pointer (some ⟨w2.heap.size, 0, none⟩), .pointer (some ⟨w2.heap.size + 1, 0, none⟩)], piece b off n 6 (min x (n / 6 - 1)), undef, undef, undef, undef, undef, undef, undef, undef, undef, undef, undef, undef, undef, undef, undef, undef, undef, undef, undef, undef, undef, undef, undef, undef, undef, undef, undef], defers := [] }) ?assign ?body ?done ?stop
  case ownx =>
    rintro c1 pre W W' row ⟨hc, p, x, hpre, hp, hx, hcl, hM⟩ hg hr
    have hbk : ∀ k, k < W1.heap.size → W'.heap[k]? = W.heap[k]? := fun k hk => hg.block k (Nat.lt_of_lt_of_le hk hM.size) (fun e => by have := (hr k e.symm).1; omega)
    exact ⟨hc, p, x, hpre, hp, hx, (World.cell?_of_block (a := ⟨w.heap.size + 1, 0, none⟩) (hbk _ HHS.out.2.2)).trans hcl, hM.grown hg (fun k hk _ => by have := (hr k hk).1; omega)⟩
  case assign =>
    intro lr x W K hK
    simp only [piece] at hK ⊢
    gi_wp2
    exact hK
  case body =>
    rintro lr pre x W ⟨hpre, hBx⟩ hlt
    have hn1 := HN.out
    have hbd := HLE.out
    rw [hn1] at hbd
    obtain ⟨k, hk⟩ : ∃ k, min x (n / 6 - 1) = k := ⟨_, rfl⟩
    have hkn : 6 * k + 6 ≤ n := by omega
    have hpc : piece b off n 6 k = .slice (some ⟨b, off + 6 * k, none⟩) 6 6 := by
      unfold piece
      rw [Nat.min_eq_left (by omega), Nat.mul_comm]
    rw [hk, hpc]
    have HXW := Lib.hid (HX1.out.below hBx)
    obtain ⟨_, _, e9, -, -, -, hel⟩ := HXW.out.open
    simp only [Value.slice.injEq] at e9
    obtain ⟨rfl, -, rfl⟩ := e9
    have cell : ∀ i, i < 6 → W.cell? ⟨b, off + 6 * k + i, none⟩ = some (.int .u8 (l.getD (6 * k + i) 0)) := fun i hi => by
      obtain ⟨b', o', e, -, hc⟩ := hel (6 * k + i) (by omega)
      simp only [Option.some.injEq, Addr.mk.injEq, and_true] at e
      obtain ⟨rfl, rfl⟩ := e
      rw [← hc, Nat.add_assoc]
    have hlt0 : b < W.heap.size := by
      obtain ⟨b', o', e, hb', -⟩ := hel 0 (by omega)
      simp only [Option.some.injEq, Addr.mk.injEq, and_true] at e
      obtain ⟨rfl, rfl⟩ := e
      exact hb'
    have bd : ∀ i, 0 ≤ l.getD i 0 ∧ l.getD i 0 ≤ 255 := fun i => getD_bd HBY.out i
    have d0 : W.cell? ⟨b, off + 6 * k, none⟩ = some (.int .u8 (l.getD (6 * k) 0)) := cell 0 (by decide)
    have d1 := cell 1 (by decide)
    have d2 := cell 2 (by decide)
    have d3 := cell 3 (by decide)
    have d4 := cell 4 (by decide)
    have d5 := cell 5 (by decide)
    have b0 := bd (6 * k)
    have b1 := bd (6 * k + 1)
    have b2 := bd (6 * k + 2)
    have b3 := bd (6 * k + 3)
    have b4 := bd (6 * k + 4)
    have b5 := bd (6 * k + 5)
    have hwl : wordL (l.drop (6 * k + 2)) = l.getD (6 * k + 2) 0 * 16777216 + l.getD (6 * k + 3) 0 * 65536 + l.getD (6 * k + 4) 0 * 256 + l.getD (6 * k + 5) 0 := by
      simp [wordL, List.getElem?_drop, Nat.add_assoc]
    have hsc : setC l k = if l.getD (6 * k) 0 * 256 + l.getD (6 * k + 1) 0 = 4 ∧ 2147483647 < l.getD (6 * k + 2) 0 * 16777216 + l.getD (6 * k + 3) 0 * 65536 + l.getD (6 * k + 4) 0 * 256 + l.getD (6 * k + 5) 0 then 3 else if l.getD (6 * k) 0 * 256 + l.getD (6 * k + 1) 0 = 5 ∧ l.getD (6 * k + 2) 0 * 16777216 + l.getD (6 * k + 3) 0 * 65536 + l.getD (6 * k + 4) 0 * 256 + l.getD (6 * k + 5) 0 < 1024 then 1 else 0 := by
      unfold setC; rw [hwl]
    clear hwl cell bd hel
    generalize l.getD (6 * k) 0 = x0 at *
    generalize l.getD (6 * k + 1) 0 = x1 at *
    generalize l.getD (6 * k + 2) 0 = x2 at *
    generalize l.getD (6 * k + 3) 0 = x3 at *
    generalize l.getD (6 * k + 4) 0 = x4 at *
    generalize l.getD (6 * k + 5) 0 = x5 at *
    have hxb : BytesAt W (.slice (some ⟨b, off + 6 * k + 2, none⟩) 4 4) [x2, x3, x4, x5] := ⟨_, 4, rfl, by simp [BytesL.valB], by decide, by simp, fun i hi => ⟨b, _, rfl, hlt0, by
      rcases i with _ | _ | _ | _ | i
      · exact d2
      · exact d3
      · exact d4
      · exact d5
      · simp [BytesL.valB] at hi; omega⟩⟩
    obtain ⟨y, hy⟩ : ∃ y, x2 * 16777216 + x3 * 65536 + x4 * 256 + x5 = y := ⟨_, rfl⟩
    have HWD : Hid (∀ m, Calls Tryz.prog 65 #[.slice (some ⟨b, off + 6 * k + 2, none⟩) 4 4] (W.drewN m) fun e w' => e = .returned (.int .i64 y) ∧ ∃ m', w' = (W.drewN m).drewN m') := fun m => by
      have h := word_q x2 x3 x4 x5 [] b2 b3 b4 b5 _ (W.drewN m) (hxb.below (below_dN (Below.refl _ _) m))
      rw [hy] at h
      exact h
    obtain ⟨key, hkey⟩ : ∃ key, x0 * 256 + x1 = key := ⟨_, rfl⟩
    have hj : bits BinOp.or IntKind.i64 (x0 * 256) x1 = key := by rw [← hkey]; exact BitsL.join_i64 8 _ _ (by omega) (by omega) (by omega) (by omega) (by omega) (by omega)
    have hw0 : IntKind.i64.wrap x0 = x0 := IntWalk.i64_in _ (by omega)
    have hw1 : IntKind.i64.wrap x1 = x1 := IntWalk.i64_in _ (by omega)
    have hsl := slice_at2 b (off + 6 * k)
    rw [hy, hkey] at hsc
    have HSC := Lib.hid hsc
    have HPRE := Lib.hid hpre
    have HK := Lib.hid hk
    have HBW := Lib.hid hBx
    have u0 := (hBx.cell (p := ⟨w.heap.size + 1, 0, none⟩) HHS.out.2.2).trans t0
    have uf := (hBx.frozen (p := ⟨w.heap.size + 1, 0, none⟩) HHS.out.2.2).trans tf
    clear hsc hpre hk hn1 hbd hkn hpc hBx hlt hst hxb hy hkey d2 d3 d4 d5 b2 b3 b4 b5 t0 tf hs2 hs1 hsz
    have hway : (key = 4 ∧ 2147483647 < y) ∨ (key = 4 ∧ ¬ 2147483647 < y) ∨ (key = 5 ∧ y < 1024) ∨ (key = 5 ∧ ¬ y < 1024) ∨ (¬ key = 4 ∧ ¬ key = 5) := by omega
    gi_wp2
    refine RoundL.wpIn_region_quiet_round (by kernel_rfl) (by kernel_rfl) (by kernel_rfl) ?_
    repeat (go_big_quiet_step (((go_at_call 65); exact Calls.quiet_of (HWD.out _))))
    refine wpQuiet_nil ?_
    intro _ hw'
    obtain ⟨nq, hw''⟩ := hw'
    subst hw''
    have v0 : (W.drewN nq).cell? ⟨w.heap.size + 1, 0, none⟩ = some (.int .i64 0) := u0
    have vf : (W.drewN nq).frozen? ⟨w.heap.size + 1, 0, none⟩ = false := uf
    have HB2W : Hid (Below W1.heap.size W1 (W.drewN nq)) := below_dN HBW.out nq
    have HKF : Hid (KeepsFrom W1.heap.size W (W.drewN nq)) := ⟨Nat.le_refl _, fun k o _ h _ => h⟩
    have HKC : Hid (KpC w2.heap.size (w2.heap.size + 1) W (W.drewN nq)) := ⟨rfl, rfl⟩
    clear u0 uf
    generalize W.drewN nq = W2 at *
    rcases hway with ⟨rfl, hy⟩ | ⟨rfl, hy⟩ | ⟨rfl, hy⟩ | ⟨rfl, hy⟩ | ⟨h4, h5⟩
    · have hc : setC l k = 3 := by rw [HSC.out, if_pos ⟨rfl, hy⟩]
      have g1 : decide (2147483647 < y) = true := decide_eq_true hy
      gi_wp2
      have z0 := World.cell?_setCell_same _ _ (.int .i64 3) v0
      refine ⟨HKF.out.trans ((KeepsOthers.setCell _ _ _).from _), rfl, pre, x, rfl, HPRE.out, ?_, ?_, ?_⟩
      · rw [HK.out, hc]; decide
      · rw [HK.out, hc]; exact z0
      · exact (Mod.ofBelow (S := fun k => k = w.heap.size + 1) HB2W.out (fun k h1 h2 => by omega)).setCell (p := ⟨w.heap.size + 1, 0, none⟩) (fun _ => rfl) _
    · have hc : setC l k = 0 := by rw [HSC.out, if_neg (fun h => absurd h.2 (by omega)), if_neg (fun h => by have := h.1; omega)]
      have g1 : decide (2147483647 < y) = false := decide_eq_false (by omega)
      gi_wp2
      refine ⟨HKF.out, HKC.out, fun z hz => ?_, HB2W.out⟩
      rcases List.mem_append.1 hz with h | h
      · exact HPRE.out z h
      · obtain rfl := List.mem_singleton.1 h
        rw [HK.out, hc]
    · have hc : setC l k = 1 := by rw [HSC.out, if_neg (fun h => by have := h.1; omega), if_pos ⟨rfl, hy⟩]
      have g1 : decide (y < 1024) = true := decide_eq_true hy
      gi_wp2
      have z0 := World.cell?_setCell_same _ _ (.int .i64 1) v0
      refine ⟨HKF.out.trans ((KeepsOthers.setCell _ _ _).from _), rfl, pre, x, rfl, HPRE.out, ?_, ?_, ?_⟩
      · rw [HK.out, hc]; decide
      · rw [HK.out, hc]; exact z0
      · exact (Mod.ofBelow (S := fun k => k = w.heap.size + 1) HB2W.out (fun k h1 h2 => by omega)).setCell (p := ⟨w.heap.size + 1, 0, none⟩) (fun _ => rfl) _
    · have hc : setC l k = 0 := by rw [HSC.out, if_neg (fun h => by have := h.1; omega), if_neg (fun h => absurd h.2 (by omega))]
      have g1 : decide (y < 1024) = false := decide_eq_false (by omega)
      gi_wp2
      refine ⟨HKF.out, HKC.out, fun z hz => ?_, HB2W.out⟩
      rcases List.mem_append.1 hz with h | h
      · exact HPRE.out z h
      · obtain rfl := List.mem_singleton.1 h
        rw [HK.out, hc]
    · have hc : setC l k = 0 := by rw [HSC.out, if_neg (fun h => h4 h.1), if_neg (fun h => h5 h.1)]
      have g1 : (key == 4) = false := beq_false_of_ne h4
      have g2 : (key == 5) = false := beq_false_of_ne h5
      gi_wp2
      refine ⟨HKF.out, HKC.out, fun z hz => ?_, HB2W.out⟩
      rcases List.mem_append.1 hz with h | h
      · exact HPRE.out z h
      · obtain rfl := List.mem_singleton.1 h
        rw [HK.out, hc]
  case stop =>
    rintro D c1 pre W hD ⟨k, hk, hmap⟩ ⟨rfl, p, x, hpre, hp, hx, hcl, hM⟩ hK
    refine wpIn_ret ?_
    have hPB := belowK_b (w := W1) (Nat.le_refl _) W D _ (.deferred none) hD hK rfl rfl
    have z1 := (hPB.cell (p := ⟨w.heap.size + 1, 0, none⟩) HHS.out.2.2).trans hcl
    rw [HPZ.out] at hk
    rw [hpre] at hmap
    have hn1 := HN.out
    have hbd := HLE.out
    have hmem : ∀ y ∈ p ++ [x], min y (n / 6 - 1) = y := fun y hy => by
      rw [hmap] at hy
      simp only [upto, List.map_id'', List.mem_map, List.mem_range] at hy
      obtain ⟨z, hz, rfl⟩ := hy
      omega
    have hx1 := hmem x (by simp)
    rw [hx1] at hx z1
    have hfin : setsS l = setC l x := by
      unfold setsS
      rw [hn1]
      exact lastZ hk hmap.symm (fun y hy => by have := hp y hy; rwa [hmem y (by simp [hy])] at this) hx
    refine ⟨by simp, .inl ⟨_, _, rfl, run_takeDeferred hK, ?_⟩⟩
    refine ⟨.int .i64 (setC l x), by simp [results, Tryz.results29, go_sem, z1], by rw [hfin], ?_⟩
    have hM' : Mod (fun k => k = w.heap.size + 1) w (W.putObj D (.deferred none)) := ((Mod.ofBelow (S := fun k => k = w.heap.size + 1) HB1.out (fun k h1 h2 => by omega)).andThen hM (fun k hk h => h)).below hPB (fun k h1 h2 => by have := HB1.out.size; omega)
    exact hM'.toBelow (Nat.le_refl _) (fun k hk e => by omega)
  case done =>
    rintro D xs W hD hS ⟨hpre, hBW⟩ hK
    have u0 := (hBW.cell (p := ⟨w.heap.size + 1, 0, none⟩) HHS.out.2.2).trans t0
    have uf := (hBW.frozen (p := ⟨w.heap.size + 1, 0, none⟩) HHS.out.2.2).trans tf
    have hfin : setsS l = 0 := by
      have hn1 := HN.out
      unfold setsS
      rw [hn1]
      refine firstC_none _ (fun y hy => ?_)
      obtain ⟨z, hz, rfl⟩ := List.mem_map.1 hy
      have hz1 := List.mem_range.1 hz
      have := hpre z (by rw [hS, HPZ.out]; simp [upto, hz1])
      rwa [Nat.min_eq_left (by omega)] at this
    have HFIN := Lib.hid hfin
    clear hfin hpre hS hst
    go_wp2_with fail
    have z0 := World.cell?_setCell_same _ _ (.int .i64 0) u0
    have hDW : D < W.heap.size := (Array.getElem?_eq_some_iff.1 hK).1
    have hK2 : (W.setCell ⟨w.heap.size + 1, 0, none⟩ (.int .i64 0)).heap[D]? = some (.deferred (some [])) := (set_block _ _ _ hDW (by simp only; omega)).trans hK
    have hBP := belowK_b (w := W1) (Nat.le_refl _) (W.setCell ⟨w.heap.size + 1, 0, none⟩ (.int .i64 0)) D _ (.deferred none) hD hK2 rfl rfl
    have z1 := (hBP.cell (p := ⟨w.heap.size + 1, 0, none⟩) HHS.out.2.2).trans z0
    refine ⟨by simp, .inl ⟨_, _, rfl, run_takeDeferred hK2, ?_⟩⟩
    refine ⟨.int .i64 0, by simp [results, Tryz.results29, go_sem, z1], by rw [HFIN.out], ?_⟩
    have hBF := (HB1.out.trans (hBW.mono HB1.out.size)).setCell (p := ⟨w.heap.size + 1, 0, none⟩) (by simp) (.int .i64 0)
    exact hBF.trans (hBP.mono (by have := HB1.out.size; omega))
set_option maxRecDepth 100000 in
set_option maxHeartbeats 4000000 in
theorem check_l0 (fl : Int) (hfl : 0 ≤ fl ∧ fl ≤ 255) (a : Option Addr) (c : Nat) (w : World) :
    Calls Tryz.prog 29 #[.agg #[.int .i64 4, .int .i64 fl, .int .i64 0, .slice a 0 c]] w fun e w' => e = .returned (.int .i64 0) ∧ Below w.heap.size w w' := by
  have HS := fun W => sizes_any 4 fl 0 0 a c hfl W
  rw [show sizesB 4 fl 0 = true from by simp [sizesB]] at HS
  clear hfl
  have HCH := fun W => (callsIn_wide (n := 9)).1 (chunk_in Fence.wide 9 trivial rfl a 0 c 6 (by decide) W)
  refine (callsIn_wide (n := 9)).1 ?_
  refine callsIn_of_wp_marks Tryz.func29 rfl trivial ?_ rfl
  simp only [Tryz.ntmps29, List.size_toArray, List.length_cons, List.length_nil, Nat.reduceAdd, Nat.reduceSub, Array.replicate_succ, Array.replicate_zero, List.push_toArray, List.append_toArray, List.nil_append, List.cons_append]
  refine (wpIn_wide (n := 9)).2 ?_
  go_upto_region 13 with fail
  have hB0 : Below w.heap.size w ((w.alloc (.cells #[.int .i64 4, .int .i64 fl, .int .i64 0, .slice a 0 c] 38)).alloc (.cells #[.int .i64 0] 3)) := ((Below.refl _ _).alloc (Nat.le_refl _) _).alloc (by simp) _
  have p0 : ((w.alloc (.cells #[.int .i64 4, .int .i64 fl, .int .i64 0, .slice a 0 c] 38)).alloc (.cells #[.int .i64 0] 3)).cell? ⟨w.heap.size, 0, none⟩ = some (.int .i64 4) := (cell_alloc (w.alloc (.cells #[.int .i64 4, .int .i64 fl, .int .i64 0, .slice a 0 c] 38)) _ w.heap.size 0 (by simp)).trans (by simp)
  have p1 : ((w.alloc (.cells #[.int .i64 4, .int .i64 fl, .int .i64 0, .slice a 0 c] 38)).alloc (.cells #[.int .i64 0] 3)).cell? ⟨w.heap.size, 1, none⟩ = some (.int .i64 fl) := (cell_alloc (w.alloc (.cells #[.int .i64 4, .int .i64 fl, .int .i64 0, .slice a 0 c] 38)) _ w.heap.size 1 (by simp)).trans (by simp)
  have p2 : ((w.alloc (.cells #[.int .i64 4, .int .i64 fl, .int .i64 0, .slice a 0 c] 38)).alloc (.cells #[.int .i64 0] 3)).cell? ⟨w.heap.size, 2, none⟩ = some (.int .i64 0) := (cell_alloc (w.alloc (.cells #[.int .i64 4, .int .i64 fl, .int .i64 0, .slice a 0 c] 38)) _ w.heap.size 2 (by simp)).trans (by simp)
  have p3 : ((w.alloc (.cells #[.int .i64 4, .int .i64 fl, .int .i64 0, .slice a 0 c] 38)).alloc (.cells #[.int .i64 0] 3)).cell? ⟨w.heap.size, 3, none⟩ = some (.slice a 0 c) := (cell_alloc (w.alloc (.cells #[.int .i64 4, .int .i64 fl, .int .i64 0, .slice a 0 c] 38)) _ w.heap.size 3 (by simp)).trans (by simp)
  have r0 : ((w.alloc (.cells #[.int .i64 4, .int .i64 fl, .int .i64 0, .slice a 0 c] 38)).alloc (.cells #[.int .i64 0] 3)).cell? ⟨w.heap.size + 1, 0, none⟩ = some (.int .i64 0) := by
    have h : w.heap.size + 1 = (w.alloc (.cells #[.int .i64 4, .int .i64 fl, .int .i64 0, .slice a 0 c] 38)).heap.size := by simp
    rw [h]; simp
  have rf : ((w.alloc (.cells #[.int .i64 4, .int .i64 fl, .int .i64 0, .slice a 0 c] 38)).alloc (.cells #[.int .i64 0] 3)).frozen? ⟨w.heap.size + 1, 0, none⟩ = false := by
    have h : w.heap.size + 1 = (w.alloc (.cells #[.int .i64 4, .int .i64 fl, .int .i64 0, .slice a 0 c] 38)).heap.size := by simp
    rw [h]; simp
  have hs : w.heap.size + 1 < ((w.alloc (.cells #[.int .i64 4, .int .i64 fl, .int .i64 0, .slice a 0 c] 38)).alloc (.cells #[.int .i64 0] 3)).heap.size := by simp
  generalize ((w.alloc (.cells #[.int .i64 4, .int .i64 fl, .int .i64 0, .slice a 0 c] 38)).alloc (.cells #[.int .i64 0] 3)) = W0 at *
  go_wp2_with (first
    | (go_at_call 64; refine (HS W0).mono ?_; rintro e w2 ⟨rfl, hB2⟩; have q0 := (hB2.cell (p := ⟨w.heap.size, 0, none⟩) (Nat.lt_trans (Nat.lt_succ_self _) hs)).trans p0; have q3 := (hB2.cell (p := ⟨w.heap.size, 3, none⟩) (Nat.lt_trans (Nat.lt_succ_self _) hs)).trans p3; have s0 := (hB2.cell (p := ⟨w.heap.size + 1, 0, none⟩) hs).trans r0; have sf := (hB2.frozen (p := ⟨w.heap.size + 1, 0, none⟩) hs).trans rf; have hs2 := Nat.lt_of_lt_of_le hs hB2.size; have HB2 := Lib.hid (hB0.trans (hB2.mono hB0.size)); clear hB2 p0 p3 r0 rf hB0)
    | (go_at_call 66; refine (HCH _).mono ?_; rintro e w' ⟨rfl, rfl⟩)
    | fail)
  have hB1 : Below w2.heap.size w2 ((w2.alloc (.cells #[.slice a 0 c] 30)).alloc (.cells #[.int .i64 6] 3)) := ((Below.refl _ _).alloc (Nat.le_refl _) _).alloc (by simp) _
  have hcs : ((w2.alloc (.cells #[.slice a 0 c] 30)).alloc (.cells #[.int .i64 6] 3)).cell? ⟨w2.heap.size, 0, none⟩ = some (.slice a 0 c) := (cell_alloc (w2.alloc (.cells #[.slice a 0 c] 30)) _ w2.heap.size 0 (by simp)).trans (by simp)
  have hsz : ((w2.alloc (.cells #[.slice a 0 c] 30)).alloc (.cells #[.int .i64 6] 3)).heap.size = w2.heap.size + 2 := by simp
  have t0 := (hB1.cell (p := ⟨w.heap.size + 1, 0, none⟩) hs2).trans s0
  have tf := (hB1.frozen (p := ⟨w.heap.size + 1, 0, none⟩) hs2).trans sf
  have HB1 := Lib.hid (HB2.out.trans (hB1.mono HB2.out.size))
  clear hB1 s0 sf q0 q3 HS HCH
  have hW : ((w2.alloc (.cells #[.slice a 0 c] 30)).alloc (.cells #[.int .i64 6] 3)) = ((w2.alloc (.cells #[.slice a 0 c] 30)).alloc (.cells #[.int .i64 6] 3)) := rfl
  generalize ((w2.alloc (.cells #[.slice a 0 c] 30)).alloc (.cells #[.int .i64 6] 3)) = W1 at *
  have hst := chunk_stopsE (9 - 1) 6 w2.heap.size (w2.heap.size + 1) c a W1 (by omega) hcs
  refine (wpIn_wide (n := 9)).1 ?_
  refine wpIn_rangeFunc_ownG (α := Empty) rfl (by decide) (gf := 106) (lb := #[.pointer (some ⟨w2.heap.size, 0, none⟩), .pointer (some ⟨w2.heap.size + 1, 0, none⟩)]) rfl trivial (enters_of Tryz.func106 (by kernel_rfl) rfl) hst (fun h k => h.trans k) (KpC.put (by omega) (by omega)) (Below.refl _ _) (fun x => x.elim)
    (fun pre W => Below W1.heap.size W1 W) (fun _ _ _ => False) (ownFrom_below (Nat.le_refl _) (Nat.le_refl _)) (fun _ _ _ _ _ hs _ _ => hs) (Below.refl _ _) (fun x => x.elim) ?assign ?body ?done ?stop
  case assign => intro l x; exact x.elim
  case body => intro l pre x; exact x.elim
  case stop =>
    rintro D c pre W _ _ h _
    exact h.elim
  case done =>
    rintro D xs W hD hS hBW hK
    have u0 := (hBW.cell (p := ⟨w.heap.size + 1, 0, none⟩) (by simp only; omega)).trans t0
    have uf := (hBW.frozen (p := ⟨w.heap.size + 1, 0, none⟩) (by simp only; omega)).trans tf
    go_wp2_with fail
    have z0 := World.cell?_setCell_same _ _ (.int .i64 0) u0
    have hDW : D < W.heap.size := (Array.getElem?_eq_some_iff.1 hK).1
    have hK2 : (W.setCell ⟨w.heap.size + 1, 0, none⟩ (.int .i64 0)).heap[D]? = some (.deferred (some [])) := (set_block _ _ _ hDW (by simp only; omega)).trans hK
    have hBP := belowK_b (w := W1) (Nat.le_refl _) (W.setCell ⟨w.heap.size + 1, 0, none⟩ (.int .i64 0)) D _ (.deferred none) hD hK2 rfl rfl
    have z1 := (hBP.cell (p := ⟨w.heap.size + 1, 0, none⟩) (by simp only; omega)).trans z0
    refine ⟨by simp, .inl ⟨_, _, rfl, run_takeDeferred hK2, ?_⟩⟩
    refine ⟨.int .i64 0, by simp [results, Tryz.results29, go_sem, z1], rfl, ?_⟩
    have hBF := (HB1.out.trans (hBW.mono HB1.out.size)).setCell (p := ⟨w.heap.size + 1, 0, none⟩) (by simp) (.int .i64 0)
    exact hBF.trans (hBP.mono (by have := HB1.out.size; omega))
theorem check_7 (fl st : Int) (l : List Int) (hby : Args.ByteL l) (a : Option Addr) (c : Nat) (w : World) (hfl : 0 ≤ fl ∧ fl ≤ 255) (hB : BytesAt w (.slice a l.length c) l) :
    Calls Tryz.prog 29 #[.agg #[.int .i64 7, .int .i64 fl, .int .i64 st, .slice a l.length c]] w fun e w' => e = .returned (.int .i64 (checkS ⟨7, fl, st, l⟩)) ∧ Below w.heap.size w w' := by
  cases hz : sizesB 7 fl l.length with
  | false =>
    rw [show checkS ⟨7, fl, st, l⟩ = 6 from by simp [checkS, hz]]
    exact check_s7 fl st _ a c w hfl hz
  | true =>
    have h4 : l.length = 4 := by simpa [sizesB] using hz
    obtain ⟨x0, x1, x2, x3, rfl⟩ : ∃ x0 x1 x2 x3, l = [x0, x1, x2, x3] := by
      match l, h4 with
      | [x0, x1, x2, x3], _ => exact ⟨x0, x1, x2, x3, rfl⟩
    have b : ∀ z ∈ [x0, x1, x2, x3], 0 ≤ z ∧ z ≤ 255 := hby
    have hw : ∀ W, Below w.heap.size w W → Calls Tryz.prog 65 #[.slice a ([x0, x1, x2, x3] : List Int).length c] W fun e w' => e = .returned (.int .i64 (x0 * 16777216 + x1 * 65536 + x2 * 256 + x3)) ∧ Below W.heap.size W w' := fun W hBW =>
      word_any x0 x1 x2 x3 [] (b _ (by simp)) (b _ (by simp)) (b _ (by simp)) (b _ (by simp)) _ W (hB.below hBW)
    have h0 := b x0 (by simp)
    have h1 := b x1 (by simp)
    have h2 := b x2 (by simp)
    have h3 := b x3 (by simp)
    by_cases hx0 : x0 * 16777216 + x1 * 65536 + x2 * 256 + x3 = 0
    · rw [show checkS ⟨7, fl, st, [x0, x1, x2, x3]⟩ = 1 from by simp [checkS, sizesB, wordL, hx0]]
      exact check_wz fl st _ _ a c w hfl hz hw hx0
    · by_cases hx : 2147483647 < x0 * 16777216 + x1 * 65536 + x2 * 256 + x3
      · rw [show checkS ⟨7, fl, st, [x0, x1, x2, x3]⟩ = 1 from by simp [checkS, sizesB, wordL, hx]]
        exact check_wg fl st _ _ a c w hfl hz hw hx
      · rw [show checkS ⟨7, fl, st, [x0, x1, x2, x3]⟩ = 0 from by simp [checkS, sizesB, wordL, hx, hx0]]
        exact check_wo fl st _ _ a c w hfl hz hw ⟨by omega, by omega⟩
theorem check_any (f : Fr) (hfl : 0 ≤ f.flags ∧ f.flags ≤ 255) (hle : f.body.length ≤ 1024) (hby : Args.ByteL f.body) (a : Option Addr) (c : Nat) (w : World) (hB : BytesAt w (.slice a f.body.length c) f.body) :
    Calls Tryz.prog 29 #[.agg #[.int .i64 f.kind, .int .i64 f.flags, .int .i64 f.stream, .slice a f.body.length c]] w fun e w' => e = .returned (.int .i64 (checkS f)) ∧ Below w.heap.size w w' := by
  obtain ⟨k, fl, st, l⟩ := f
  simp only at hfl hle hby hB ⊢
  by_cases hk : k < 0 ∨ 8 ≤ k
  · have e : checkS ⟨k, fl, st, l⟩ = 0 := by
      simp only [checkS]
      rw [if_neg (by omega), if_neg (by omega), if_neg (by simp only [sizesB]; rw [if_neg (by omega), if_neg (by omega), if_neg (by omega), if_neg (by omega)]; decide), if_neg (by omega), if_neg (by omega)]
    rw [e]
    refine check_p8 k fl st _ a c w hfl hk ?_
    simp only [sizesB]; rw [if_neg (by omega), if_neg (by omega), if_neg (by omega), if_neg (by omega)]
  have h8 : k = 0 ∨ k = 1 ∨ k = 2 ∨ k = 3 ∨ k = 4 ∨ k = 5 ∨ k = 6 ∨ k = 7 := by omega
  by_cases hs : st = 0
  · subst hs
    rcases h8 with rfl | rfl | rfl | rfl | rfl | rfl | rfl | rfl
    · exact check_e0 fl _ a c w
    · exact check_e1 fl _ a c w
    · exact check_e2 fl _ a c w
    · exact check_e3 fl _ a c w
    · cases hz : sizesB 4 fl l.length with
      | false =>
        rw [show checkS ⟨4, fl, 0, l⟩ = 6 from by simp [checkS, hz]]
        exact check_s4 fl _ a c w hfl hz
      | true =>
        rw [show checkS ⟨4, fl, 0, l⟩ = setsS l from by simp [checkS, hz]]
        rcases Nat.eq_zero_or_pos l.length with h0 | h0
        · obtain rfl := List.eq_nil_of_length_eq_zero h0
          exact check_l0 fl hfl a c w
        · obtain ⟨_, _, e9, -, -, -, hel⟩ := hB.open
          simp only [Value.slice.injEq] at e9
          obtain ⟨rfl, -, rfl⟩ := e9
          obtain ⟨b, off, rfl, -, -⟩ := hel 0 h0
          exact check_l fl l h0 (by simp [sizesB] at hz; omega) hle hby b off c hfl hz w hB
    · cases hz : sizesB 5 fl l.length with
      | false =>
        rw [show checkS ⟨5, fl, 0, l⟩ = 6 from by simp [checkS, hz]]
        exact check_s5 fl _ a c w hfl hz
      | true =>
        rw [show checkS ⟨5, fl, 0, l⟩ = 0 from by simp [checkS, hz]]
        exact check_p5 fl _ a c w hfl hz
    · cases hz : sizesB 6 fl l.length with
      | false =>
        rw [show checkS ⟨6, fl, 0, l⟩ = 6 from by simp [checkS, hz]]
        exact check_s6 fl _ a c w hfl hz
      | true =>
        rw [show checkS ⟨6, fl, 0, l⟩ = 0 from by simp [checkS, hz]]
        exact check_p6 fl _ a c w hfl hz
    · exact check_7 fl 0 l hby a c w hfl hB
  · rcases h8 with rfl | rfl | rfl | rfl | rfl | rfl | rfl | rfl
    · rw [show checkS ⟨0, fl, st, l⟩ = 0 from by simp [checkS, hs, sizesB]]
      exact check_p0 fl st _ a c w hfl hs (by simp [sizesB])
    · rw [show checkS ⟨1, fl, st, l⟩ = 0 from by simp [checkS, hs, sizesB]]
      exact check_p1 fl st _ a c w hfl hs (by simp [sizesB])
    · rw [show checkS ⟨2, fl, st, l⟩ = 0 from by simp [checkS, hs, sizesB]]
      exact check_p2 fl st _ a c w hfl hs (by simp [sizesB])
    · cases hz : sizesB 3 fl l.length with
      | false =>
        rw [show checkS ⟨3, fl, st, l⟩ = 6 from by simp [checkS, hs, hz]]
        exact check_s3 fl st _ a c w hfl hs hz
      | true =>
        rw [show checkS ⟨3, fl, st, l⟩ = 0 from by simp [checkS, hs, hz]]
        exact check_p3 fl st _ a c w hfl hs hz
    · rw [show checkS ⟨4, fl, st, l⟩ = 1 from by simp [checkS, hs]]
      exact check_e4 fl st _ a c w hs
    · rw [show checkS ⟨5, fl, st, l⟩ = 1 from by simp [checkS, hs]]
      exact check_e5 fl st _ a c w hs
    · rw [show checkS ⟨6, fl, st, l⟩ = 1 from by simp [checkS, hs]]
      exact check_e6 fl st _ a c w hs
    · exact check_7 fl st l hby a c w hfl hB
end Go.Proofs.YtegngpingfjedaaGreatDoor.ConnS

/- fail: what is wrong for all is told and said, and nothing is heard any more. -/
namespace Go.Proofs.YtegngpingfjedaaGreatDoor.ConnS
open Go.RowKit ModL ConnR BA WireBig SlicesB FrameC
set_option linter.unusedVariables false
set_option linter.unusedSimpArgs false

theorem cword_any (n : Int) (h0 : 0 ≤ n) (h1 : n ≤ 2147483647) (w : World) :
    Calls Tryz.prog 60 #[.int .i64 n] w fun e w' => ∃ a c, e = .returned (.slice a 4 c) ∧ BytesL.Own w' w.heap.size (.slice a 4 c) (bigL n 4) ∧ Below w.heap.size w w' := by
  have HB := Lib.hid (big_any n 4 (by omega) w)
  have HM : Hid (n ≤ most 4) := by show n ≤ most 4; rw [most4]; exact h1
  have H0 := Lib.hid h0
  clear h0 h1
  go_enter Tryz.func60, Tryz.ntmps60
  go_wp2_with (first
    | (go_at_call 42; refine HB.out.mono ?_; rintro e w1 (⟨hbad, -, -⟩ | ⟨-, b, rfl, rfl, hO, hB1, -⟩); (exact absurd hbad (by have := HM.out; have := H0.out; omega)); simp only [show (4 : Int).toNat = 4 from rfl] at hO ⊢; have HO := Lib.hid hO; have HB1 := Lib.hid hB1; clear hO hB1)
    | fail)
  go_ret
  exact ⟨_, 4, rfl, HO.out, HB1.out⟩
theorem rows2 {w : World} {v0 v1 : Value} {t : TypeId} {l0 l1 : List Int} (h0 : BytesAt w v0 l0) (h1 : BytesAt w v1 l1) :
    RowsAt (w.alloc (.cells #[v0, v1] t)) (.slice (some ⟨w.heap.size, 0, none⟩) 2 2) [v0, v1] [l0, l1] := by
  have h := RowsAt.new w #[v0, v1] t [l0, l1] rfl (by simp) (fun i hi => by
    rcases i with _ | _ | i
    · exact ⟨_, rfl, h0⟩
    · exact ⟨_, rfl, h1⟩
    · simp at hi; omega)
  simpa using h
theorem oneE_of {w w' : World} {b : Nat} {wh st cd : Int} {en : Bool} (h : OneE w b wh st cd en) (hb : ∀ (_ : Unit), b < w.heap.size → w'.heap[b]? = w.heap[b]?) (hs : w.heap.size ≤ w'.heap.size) : OneE w' b wh st cd en := by
  obtain ⟨a, b', c, d⟩ := h
  have e := hb () d
  exact ⟨(World.cell?_of_block (a := ⟨b, 0, none⟩) e).trans a, (World.cell?_of_block (a := ⟨b, 1, none⟩) e).trans b', (World.cell?_of_block (a := ⟨b, 2, none⟩) e).trans c, Nat.lt_of_lt_of_le d hs⟩
/-- What Bye says of a number and a code. -/
def byeF (last code : Int) : Fr := Fr.mk 6 0 0 (bigL last 4 ++ bigL code 4)
set_option maxRecDepth 100000 in
set_option maxHeartbeats 8000000 in
theorem fail_any {base g : Nat} {w : World} {cs : Nat → Value} {inn out : List Int} (h : Cn base w g cs inn out) (h13 : cs 13 = .slice none 0 0) (st ms : Nat) (ls : List (Int × Int)) (last : Int) (h1 : cs 1 = .pointer (some ⟨st, 0, none⟩)) (hS : StreamsC.IsStreams w st ms ls last) (hst : st ≠ g) (hms : ms ≠ g) (hla : 0 ≤ last ∧ last ≤ 2147483647) (hlen : out.length ≤ 1099511627776) (code : Int) (hc : 0 ≤ code ∧ code ≤ 2147483647) :
    Calls Tryz.prog 47 #[.pointer (some ⟨g, 0, none⟩), .int .i64 code] w fun e w' => e = .returned (.tuple #[]) ∧ ∃ b c' v5, Cn base w' g (upd (upd (upd cs 13 (.slice (some ⟨b, 0, none⟩) 1 c')) 5 v5) 11 (.bool true)) inn (out ++ (byeF last code).bytes) ∧ OneE w' b 4 0 code false ∧ w.heap.size ≤ b ∧ Mod (fun k => k = g ∨ some k = (cs 5).ownBlock) w w' := by
  have HEV := Lib.hid (event_nil h h13 4 0 code false)
  have HS := Lib.hid h
  have HSS := Lib.hid hS
  have HNE := Lib.hid (And.intro hst hms)
  have HLN := Lib.hid hlen
  have HW0 := Lib.hid (fun W => cword_any last hla.1 hla.2 W)
  have HW1 := Lib.hid (fun W => cword_any code hc.1 hc.2 W)
  have H1 := Lib.hid h1
  clear h h13 hS hst hms hla hlen hc h1
  go_enter Tryz.func47, Tryz.ntmps47
  go_wp2_with fail
  refine HEV.out.mono ?_
  rintro e w1 ⟨rfl, b, c1, hC1, hE1, hb1, hM1⟩
  have c1' : w1.cell? ⟨g, 1, none⟩ = some (.pointer (some ⟨st, 0, none⟩)) := (hC1.r.at_ 1 (by decide)).trans (congrArg some H1.out)
  have HS1 := Lib.hid (HSS.out.mod hM1 HNE.out.1 HNE.out.2)
  have HLA := Lib.hid (StreamsC.last_any HS1.out)
  have HC1 := Lib.hid hC1
  have HE1 := Lib.hid hE1
  have Hb1 := Lib.hid hb1
  have HM1 := Lib.hid hM1
  clear hC1 hE1 hb1 hM1
  go_wp2_with (first
    | (go_at_call 61; refine HLA.out.mono ?_; rintro e w2 ⟨rfl, rfl⟩)
    | fail)
  refine (HW0.out w1).mono ?_
  rintro e w2 ⟨a2, k2, rfl, hO2, hB2⟩
  have HO2 := Lib.hid hO2
  have HB2 := Lib.hid hB2
  clear hO2 hB2
  go_wp2_with fail
  refine (HW1.out w2).mono ?_
  rintro e w3 ⟨a3, k3, rfl, hO3, hB3⟩
  have HO3 := Lib.hid hO3
  have HB3 := Lib.hid hB3
  clear hO3 hB3 c1'
  have HR := Lib.hid (rows2 (t := 30) ((BytesAt.of_own HO2.out).below HB3.out) (BytesAt.of_own HO3.out))
  have HCC := Lib.hid (concat_any _ _ _ _ HR.out (by show sumLen [bigL last 4, bigL code 4] ≤ 1099511627776; simp [sumLen, bigL_len]))
  have hfl : [bigL last 4, bigL code 4].flatten = bigL last 4 ++ bigL code 4 := by simp
  rw [hfl] at HCC
  clear hfl HR
  go_wp2_with fail
  refine HCC.out.mono ?_
  rintro e w4 ⟨v4, rfl, hO4, hB4⟩
  obtain ⟨a4, k4, rfl, -⟩ := hO4.slice
  have HB4 : Hid (Below w1.heap.size w1 w4) := (HB2.out.trans (HB3.out.mono HB2.out.size)).trans (((Below.refl w3.heap.size w3).alloc (Nat.le_refl _) _).trans (hB4.mono (by simp))|>.mono (by have := HB2.out.size; have := HB3.out.size; omega))
  have HX4 := Lib.hid (BytesAt.of_own hO4)
  have HC4 := Lib.hid (HC1.out.below HB4.out)
  have hl8 : (bigL last 4 ++ bigL code 4).length = 8 := rfl
  have HSY := Lib.hid (say_any HC4.out (byeF last code) (.slice a4 (bigL last 4 ++ bigL code 4).length k4) HX4.out (by simp [byeF, Fr.inRange]) (by show (bigL last 4 ++ bigL code 4).length ≤ 1024; rw [hl8]; decide) HLN.out)
  clear hO4 hB4 HCC
  go_wp2_with fail
  refine HSY.out.mono ?_
  rintro e w5 ⟨rfl, v5, hC5, hM5⟩
  have HC5 := Lib.hid hC5
  have HM5 := Lib.hid hM5
  have f11 := hC5.r.fz 11 (by decide)
  have c11 := hC5.r.at_ 11 (by decide)
  clear hC5 hM5
  go_wp2_with fail
  go_end0
  refine ⟨rfl, b, c1, v5, HC5.out.set 11 (by decide) (by decide) (by decide) _, ?_, Hb1.out, ?_⟩
  · have hE4 := oneE_of HE1.out (fun k hk => HB4.out.block _ hk) HB4.out.size
    have hM5 : Mod (fun k => k = g ∨ some k = (cs 5).ownBlock) w4 w5 := HM5.out.mono (fun k _ hk => by rwa [upd_other _ _ (by decide)] at hk)
    have hb := Hb1.out
    have hg := HS.out.r.lt
    refine oneE_of (w := w5) (oneE_of hE4 (fun k hk => hM5.block b hk ?_) hM5.size) (fun k hk => set_block _ _ _ hk (by simp only; omega)) (by simp)
    rintro (e | e)
    · omega
    · have := (ownB_lt HS.out.o b e.symm).2; omega
  · have hM5 : Mod (fun k => k = g ∨ some k = (cs 5).ownBlock) w4 w5 := HM5.out.mono (fun k _ hk => by rwa [upd_other _ _ (by decide)] at hk)
    exact (((HM1.out.mono (fun k _ hk => .inl hk)).below HB4.out (fun k hk hge => by have := HM1.out.size; omega)).trans hM5).setCell (fun _ => .inl rfl) _
end Go.Proofs.YtegngpingfjedaaGreatDoor.ConnS

/- hear of a frame that is wrong, or that comes ahead of Set. -/
namespace Go.Proofs.YtegngpingfjedaaGreatDoor.ConnS
open Go.RowKit Go.Shelf ModL ConnR BA WireBig SlicesB FrameC
set_option linter.unusedVariables false
set_option linter.unusedSimpArgs false

set_option maxRecDepth 100000 in
set_option maxHeartbeats 8000000 in
theorem hear_fail {base g : Nat} {w : World} {cs : Nat → Value} {inn out : List Int} (h : Cn base w g cs inn out) (bg : Bool) (h10 : cs 10 = .bool bg) (h12 : cs 12 = .pointer none) (h13 : cs 13 = .slice none 0 0) (st ms : Nat) (ls : List (Int × Int)) (last : Int) (h1 : cs 1 = .pointer (some ⟨st, 0, none⟩)) (hS : StreamsC.IsStreams w st ms ls last) (hst : st ≠ g) (hms : ms ≠ g) (hla : 0 ≤ last ∧ last ≤ 2147483647) (hlen : out.length ≤ 1099511627776)
    (f : Fr) (a : Option Addr) (c : Nat) (hfl : 0 ≤ f.flags ∧ f.flags ≤ 255) (hle : f.body.length ≤ 1024) (hby : Args.ByteL f.body) (hb : BytesAt w (.slice a f.body.length c) f.body) (code : Int) (hway : (bg = false ∧ f.kind ≠ 4 ∧ code = 1) ∨ ((bg = true ∨ f.kind = 4) ∧ checkS f = code ∧ code ≠ 0)) :
    Calls Tryz.prog 46 #[.pointer (some ⟨g, 0, none⟩), .agg #[.int .i64 f.kind, .int .i64 f.flags, .int .i64 f.stream, .slice a f.body.length c]] w fun e w' => e = .returned (.tuple #[]) ∧ ∃ b c' v5, Cn base w' g (upd (upd (upd cs 13 (.slice (some ⟨b, 0, none⟩) 1 c')) 5 v5) 11 (.bool true)) inn (out ++ (byeF last code).bytes) ∧ OneE w' b 4 0 code false ∧ w.heap.size ≤ b ∧ Mod (fun k => k = g ∨ some k = (cs 5).ownBlock) w w' := by
  have hcd : 0 ≤ code ∧ code ≤ 2147483647 := by
    rcases hway with ⟨_, _, e⟩ | ⟨_, e, _⟩
    · omega
    · have := checkS_bd f; omega
  have hlt := hS.lt
  have HF : Hid (∀ W, Below w.heap.size w W → Calls Tryz.prog 47 #[.pointer (some ⟨g, 0, none⟩), .int .i64 code] W fun e w' => e = .returned (.tuple #[]) ∧ ∃ b c' v5, Cn base w' g (upd (upd (upd cs 13 (.slice (some ⟨b, 0, none⟩) 1 c')) 5 v5) 11 (.bool true)) inn (out ++ (byeF last code).bytes) ∧ OneE w' b 4 0 code false ∧ W.heap.size ≤ b ∧ Mod (fun k => k = g ∨ some k = (cs 5).ownBlock) W w') := fun W hB =>
    fail_any (h.below hB) h13 st ms ls last h1 (hS.below hB hlt.1 hlt.2) hst hms hla hlen code hcd
  have HCK : Hid (∀ W, Below w.heap.size w W → Calls Tryz.prog 29 #[.agg #[.int .i64 f.kind, .int .i64 f.flags, .int .i64 f.stream, .slice a f.body.length c]] W fun e w' => e = .returned (.int .i64 (checkS f)) ∧ Below W.heap.size W w') := fun W hB => check_any f hfl hle hby a c W (hb.below hB)
  have c10 := h.r.at_ 10 (by decide)
  have c12 := h.r.at_ 12 (by decide)
  rw [h10] at c10
  rw [h12] at c12
  have hgl := h.r.lt
  clear h h10 h12 h13 h1 hS hst hms hla hlen hfl hle hby hb hcd hlt
  generalize hck : checkS f = ck at *
  clear hck
  obtain ⟨kd, fl, sm, body⟩ := f
  simp only at *
  generalize body.length = nl at *
  clear body
  rcases hway with ⟨rfl, hk, rfl⟩ | ⟨rfl | rfl, rfl, hc⟩
  · have b4 : (kd != 4) = true := bne_iff_ne.2 hk
    have b4' : (kd == 4) = false := beq_false_of_ne hk
    clear hk
    go_enter Tryz.func46, Tryz.ntmps46
    go_upto_region 1 with fail
    have hB0 : Below w.heap.size w (w.alloc (.cells #[.int .i64 kd, .int .i64 fl, .int .i64 sm, .slice a nl c] 38)) := (Below.refl _ _).alloc (Nat.le_refl _) _
    have p0 : (w.alloc (.cells #[.int .i64 kd, .int .i64 fl, .int .i64 sm, .slice a nl c] 38)).cell? ⟨w.heap.size, 0, none⟩ = some (.int .i64 kd) := by simp
    have p1 : (w.alloc (.cells #[.int .i64 kd, .int .i64 fl, .int .i64 sm, .slice a nl c] 38)).cell? ⟨w.heap.size, 1, none⟩ = some (.int .i64 fl) := by simp
    have p2 : (w.alloc (.cells #[.int .i64 kd, .int .i64 fl, .int .i64 sm, .slice a nl c] 38)).cell? ⟨w.heap.size, 2, none⟩ = some (.int .i64 sm) := by simp
    have p3 : (w.alloc (.cells #[.int .i64 kd, .int .i64 fl, .int .i64 sm, .slice a nl c] 38)).cell? ⟨w.heap.size, 3, none⟩ = some (.slice a nl c) := by simp
    have d10 := (hB0.cell (p := ⟨g, 10, none⟩) hgl).trans c10
    have d12 := (hB0.cell (p := ⟨g, 12, none⟩) hgl).trans c12
    have hs0 : w.heap.size < (w.alloc (.cells #[.int .i64 kd, .int .i64 fl, .int .i64 sm, .slice a nl c] 38)).heap.size := by simp
    have HB0 := Lib.hid hB0
    clear hB0 c10 c12
    generalize w.alloc (.cells #[.int .i64 kd, .int .i64 fl, .int .i64 sm, .slice a nl c] 38) = w0 at *
    go_quiet (fail)
    have HB1 : Hid (Below w.heap.size w (w0.drewN nq)) := below_dN HB0.out nq
    replace p0 : (w0.drewN nq).cell? ⟨w.heap.size, 0, none⟩ = some (.int .i64 kd) := p0
    replace p1 : (w0.drewN nq).cell? ⟨w.heap.size, 1, none⟩ = some (.int .i64 fl) := p1
    replace p2 : (w0.drewN nq).cell? ⟨w.heap.size, 2, none⟩ = some (.int .i64 sm) := p2
    replace p3 : (w0.drewN nq).cell? ⟨w.heap.size, 3, none⟩ = some (.slice a nl c) := p3
    replace d10 : (w0.drewN nq).cell? ⟨g, 10, none⟩ = some (.bool false) := d10
    replace d12 : (w0.drewN nq).cell? ⟨g, 12, none⟩ = some (.pointer none) := d12
    replace hs0 : w.heap.size < (w0.drewN nq).heap.size := hs0
    clear HB0
    generalize w0.drewN nq = w1 at *
    have hgl1 : g < w1.heap.size := by omega
    have hne : g ≠ w.heap.size := by omega
    have hne2 : w.heap.size ≠ g := by omega
    go_wp2_with (first
      | (go_at_call 29; refine (HCK.out w1 HB1.out).mono ?_; rintro e w2 ⟨rfl, hB2⟩; have q0 := (hB2.cell (p := ⟨w.heap.size, 0, none⟩) hs0).trans p0; have e10 := (hB2.cell (p := ⟨g, 10, none⟩) hgl1).trans d10; have HB2 := Lib.hid (HB1.out.trans (hB2.mono HB1.out.size)); clear hB2 p0 p1 p2 p3 d10 d12)
      | (go_at_call 47; refine (HF.out w2 HB2.out).mono ?_; rintro e w3 ⟨rfl, hR⟩; have HR := Lib.hid hR; clear hR)
      | fail)
    all_goals
      refine bodyPost_ret (results_none rfl _ _ _) rfl ?_
      obtain ⟨b, c', v5, hC, hE, hb, hM⟩ := HR.out
      have hs := HB2.out.size
      exact ⟨rfl, b, c', v5, hC, hE, by omega, (Mod.ofBelow HB2.out (fun k hk hge => by omega)).trans hM⟩
  · have b0 : (ck != 0) = true := bne_iff_ne.2 hc
    clear hc
    go_enter Tryz.func46, Tryz.ntmps46
    go_upto_region 1 with fail
    have hB0 : Below w.heap.size w (w.alloc (.cells #[.int .i64 kd, .int .i64 fl, .int .i64 sm, .slice a nl c] 38)) := (Below.refl _ _).alloc (Nat.le_refl _) _
    have p0 : (w.alloc (.cells #[.int .i64 kd, .int .i64 fl, .int .i64 sm, .slice a nl c] 38)).cell? ⟨w.heap.size, 0, none⟩ = some (.int .i64 kd) := by simp
    have p1 : (w.alloc (.cells #[.int .i64 kd, .int .i64 fl, .int .i64 sm, .slice a nl c] 38)).cell? ⟨w.heap.size, 1, none⟩ = some (.int .i64 fl) := by simp
    have p2 : (w.alloc (.cells #[.int .i64 kd, .int .i64 fl, .int .i64 sm, .slice a nl c] 38)).cell? ⟨w.heap.size, 2, none⟩ = some (.int .i64 sm) := by simp
    have p3 : (w.alloc (.cells #[.int .i64 kd, .int .i64 fl, .int .i64 sm, .slice a nl c] 38)).cell? ⟨w.heap.size, 3, none⟩ = some (.slice a nl c) := by simp
    have d10 := (hB0.cell (p := ⟨g, 10, none⟩) hgl).trans c10
    have d12 := (hB0.cell (p := ⟨g, 12, none⟩) hgl).trans c12
    have hs0 : w.heap.size < (w.alloc (.cells #[.int .i64 kd, .int .i64 fl, .int .i64 sm, .slice a nl c] 38)).heap.size := by simp
    have HB0 := Lib.hid hB0
    clear hB0 c10 c12
    generalize w.alloc (.cells #[.int .i64 kd, .int .i64 fl, .int .i64 sm, .slice a nl c] 38) = w0 at *
    go_quiet (fail)
    have HB1 : Hid (Below w.heap.size w (w0.drewN nq)) := below_dN HB0.out nq
    replace p0 : (w0.drewN nq).cell? ⟨w.heap.size, 0, none⟩ = some (.int .i64 kd) := p0
    replace p1 : (w0.drewN nq).cell? ⟨w.heap.size, 1, none⟩ = some (.int .i64 fl) := p1
    replace p2 : (w0.drewN nq).cell? ⟨w.heap.size, 2, none⟩ = some (.int .i64 sm) := p2
    replace p3 : (w0.drewN nq).cell? ⟨w.heap.size, 3, none⟩ = some (.slice a nl c) := p3
    replace d10 : (w0.drewN nq).cell? ⟨g, 10, none⟩ = some (.bool true) := d10
    replace d12 : (w0.drewN nq).cell? ⟨g, 12, none⟩ = some (.pointer none) := d12
    replace hs0 : w.heap.size < (w0.drewN nq).heap.size := hs0
    clear HB0
    generalize w0.drewN nq = w1 at *
    have hgl1 : g < w1.heap.size := by omega
    have hne : g ≠ w.heap.size := by omega
    have hne2 : w.heap.size ≠ g := by omega
    go_wp2_with (first
      | (go_at_call 29; refine (HCK.out w1 HB1.out).mono ?_; rintro e w2 ⟨rfl, hB2⟩; have q0 := (hB2.cell (p := ⟨w.heap.size, 0, none⟩) hs0).trans p0; have e10 := (hB2.cell (p := ⟨g, 10, none⟩) hgl1).trans d10; have HB2 := Lib.hid (HB1.out.trans (hB2.mono HB1.out.size)); clear hB2 p0 p1 p2 p3 d10 d12)
      | (go_at_call 47; refine (HF.out w2 HB2.out).mono ?_; rintro e w3 ⟨rfl, hR⟩; have HR := Lib.hid hR; clear hR)
      | fail)
    all_goals
      refine bodyPost_ret (results_none rfl _ _ _) rfl ?_
      obtain ⟨b, c', v5, hC, hE, hb, hM⟩ := HR.out
      have hs := HB2.out.size
      exact ⟨rfl, b, c', v5, hC, hE, by omega, (Mod.ofBelow HB2.out (fun k hk hge => by omega)).trans hM⟩
  · have b0 : (ck != 0) = true := bne_iff_ne.2 hc
    clear hc
    cases bg with
    | true =>
      go_enter Tryz.func46, Tryz.ntmps46
      go_upto_region 1 with fail
      have hB0 : Below w.heap.size w (w.alloc (.cells #[.int .i64 4, .int .i64 fl, .int .i64 sm, .slice a nl c] 38)) := (Below.refl _ _).alloc (Nat.le_refl _) _
      have p0 : (w.alloc (.cells #[.int .i64 4, .int .i64 fl, .int .i64 sm, .slice a nl c] 38)).cell? ⟨w.heap.size, 0, none⟩ = some (.int .i64 4) := by simp
      have p1 : (w.alloc (.cells #[.int .i64 4, .int .i64 fl, .int .i64 sm, .slice a nl c] 38)).cell? ⟨w.heap.size, 1, none⟩ = some (.int .i64 fl) := by simp
      have p2 : (w.alloc (.cells #[.int .i64 4, .int .i64 fl, .int .i64 sm, .slice a nl c] 38)).cell? ⟨w.heap.size, 2, none⟩ = some (.int .i64 sm) := by simp
      have p3 : (w.alloc (.cells #[.int .i64 4, .int .i64 fl, .int .i64 sm, .slice a nl c] 38)).cell? ⟨w.heap.size, 3, none⟩ = some (.slice a nl c) := by simp
      have d10 := (hB0.cell (p := ⟨g, 10, none⟩) hgl).trans c10
      have d12 := (hB0.cell (p := ⟨g, 12, none⟩) hgl).trans c12
      have hs0 : w.heap.size < (w.alloc (.cells #[.int .i64 4, .int .i64 fl, .int .i64 sm, .slice a nl c] 38)).heap.size := by simp
      have HB0 := Lib.hid hB0
      clear hB0 c10 c12
      generalize w.alloc (.cells #[.int .i64 4, .int .i64 fl, .int .i64 sm, .slice a nl c] 38) = w0 at *
      go_quiet (fail)
      have HB1 : Hid (Below w.heap.size w (w0.drewN nq)) := below_dN HB0.out nq
      replace p0 : (w0.drewN nq).cell? ⟨w.heap.size, 0, none⟩ = some (.int .i64 4) := p0
      replace p1 : (w0.drewN nq).cell? ⟨w.heap.size, 1, none⟩ = some (.int .i64 fl) := p1
      replace p2 : (w0.drewN nq).cell? ⟨w.heap.size, 2, none⟩ = some (.int .i64 sm) := p2
      replace p3 : (w0.drewN nq).cell? ⟨w.heap.size, 3, none⟩ = some (.slice a nl c) := p3
      replace d10 : (w0.drewN nq).cell? ⟨g, 10, none⟩ = some (.bool true) := d10
      replace d12 : (w0.drewN nq).cell? ⟨g, 12, none⟩ = some (.pointer none) := d12
      replace hs0 : w.heap.size < (w0.drewN nq).heap.size := hs0
      clear HB0
      generalize w0.drewN nq = w1 at *
      have hgl1 : g < w1.heap.size := by omega
      have hne : g ≠ w.heap.size := by omega
      have hne2 : w.heap.size ≠ g := by omega
      go_wp2_with (first
        | (go_at_call 29; refine (HCK.out w1 HB1.out).mono ?_; rintro e w2 ⟨rfl, hB2⟩; have q0 := (hB2.cell (p := ⟨w.heap.size, 0, none⟩) hs0).trans p0; have e10 := (hB2.cell (p := ⟨g, 10, none⟩) hgl1).trans d10; have HB2 := Lib.hid (HB1.out.trans (hB2.mono HB1.out.size)); clear hB2 p0 p1 p2 p3 d10 d12)
        | (go_at_call 47; refine (HF.out w2 HB2.out).mono ?_; rintro e w3 ⟨rfl, hR⟩; have HR := Lib.hid hR; clear hR)
        | fail)
      all_goals
        refine bodyPost_ret (results_none rfl _ _ _) rfl ?_
        obtain ⟨b, c', v5, hC, hE, hb, hM⟩ := HR.out
        have hs := HB2.out.size
        exact ⟨rfl, b, c', v5, hC, hE, by omega, (Mod.ofBelow HB2.out (fun k hk hge => by omega)).trans hM⟩
    | false =>
      go_enter Tryz.func46, Tryz.ntmps46
      go_upto_region 1 with fail
      have hB0 : Below w.heap.size w (w.alloc (.cells #[.int .i64 4, .int .i64 fl, .int .i64 sm, .slice a nl c] 38)) := (Below.refl _ _).alloc (Nat.le_refl _) _
      have p0 : (w.alloc (.cells #[.int .i64 4, .int .i64 fl, .int .i64 sm, .slice a nl c] 38)).cell? ⟨w.heap.size, 0, none⟩ = some (.int .i64 4) := by simp
      have p1 : (w.alloc (.cells #[.int .i64 4, .int .i64 fl, .int .i64 sm, .slice a nl c] 38)).cell? ⟨w.heap.size, 1, none⟩ = some (.int .i64 fl) := by simp
      have p2 : (w.alloc (.cells #[.int .i64 4, .int .i64 fl, .int .i64 sm, .slice a nl c] 38)).cell? ⟨w.heap.size, 2, none⟩ = some (.int .i64 sm) := by simp
      have p3 : (w.alloc (.cells #[.int .i64 4, .int .i64 fl, .int .i64 sm, .slice a nl c] 38)).cell? ⟨w.heap.size, 3, none⟩ = some (.slice a nl c) := by simp
      have d10 := (hB0.cell (p := ⟨g, 10, none⟩) hgl).trans c10
      have d12 := (hB0.cell (p := ⟨g, 12, none⟩) hgl).trans c12
      have hs0 : w.heap.size < (w.alloc (.cells #[.int .i64 4, .int .i64 fl, .int .i64 sm, .slice a nl c] 38)).heap.size := by simp
      have HB0 := Lib.hid hB0
      clear hB0 c10 c12
      generalize w.alloc (.cells #[.int .i64 4, .int .i64 fl, .int .i64 sm, .slice a nl c] 38) = w0 at *
      go_quiet (fail)
      have HB1 : Hid (Below w.heap.size w (w0.drewN nq)) := below_dN HB0.out nq
      replace p0 : (w0.drewN nq).cell? ⟨w.heap.size, 0, none⟩ = some (.int .i64 4) := p0
      replace p1 : (w0.drewN nq).cell? ⟨w.heap.size, 1, none⟩ = some (.int .i64 fl) := p1
      replace p2 : (w0.drewN nq).cell? ⟨w.heap.size, 2, none⟩ = some (.int .i64 sm) := p2
      replace p3 : (w0.drewN nq).cell? ⟨w.heap.size, 3, none⟩ = some (.slice a nl c) := p3
      replace d10 : (w0.drewN nq).cell? ⟨g, 10, none⟩ = some (.bool false) := d10
      replace d12 : (w0.drewN nq).cell? ⟨g, 12, none⟩ = some (.pointer none) := d12
      replace hs0 : w.heap.size < (w0.drewN nq).heap.size := hs0
      clear HB0
      generalize w0.drewN nq = w1 at *
      have hgl1 : g < w1.heap.size := by omega
      have hne : g ≠ w.heap.size := by omega
      have hne2 : w.heap.size ≠ g := by omega
      go_wp2_with (first
        | (go_at_call 29; refine (HCK.out w1 HB1.out).mono ?_; rintro e w2 ⟨rfl, hB2⟩; have q0 := (hB2.cell (p := ⟨w.heap.size, 0, none⟩) hs0).trans p0; have e10 := (hB2.cell (p := ⟨g, 10, none⟩) hgl1).trans d10; have HB2 := Lib.hid (HB1.out.trans (hB2.mono HB1.out.size)); clear hB2 p0 p1 p2 p3 d10 d12)
        | (go_at_call 47; refine (HF.out w2 HB2.out).mono ?_; rintro e w3 ⟨rfl, hR⟩; have HR := Lib.hid hR; clear hR)
        | fail)
      all_goals
        refine bodyPost_ret (results_none rfl _ _ _) rfl ?_
        obtain ⟨b, c', v5, hC, hE, hb, hM⟩ := HR.out
        have hs := HB2.out.size
        exact ⟨rfl, b, c', v5, hC, hE, by omega, (Mod.ofBelow HB2.out (fun k hk hge => by omega)).trans hM⟩
end Go.Proofs.YtegngpingfjedaaGreatDoor.ConnS
