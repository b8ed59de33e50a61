/-
  log.check over this seat's translation, exactly.
  Conditions: none.
-/
import Derived.Test.YtcpkikillmmjcaaGreatDoorLogP
import Derived.WalkKit
import Derived.Lib.Hide
namespace Go.Proofs.YtcpkikillmmjcaaGreatDoor.LogC
open Go.RowKit LogP LineC
set_option linter.unusedVariables false
set_option linter.unusedSimpArgs false

/-- An entry as a value; its fault as one. -/
def enV (e : En) : Value := .agg #[.int .i64 e.time, .int .i64 e.code, .int .i64 e.bytes, .int .i64 e.took, .string e.method, .string e.path]
def errV (k : Int) : Value := if k = 0 then .nilIface else .iface 52 (.int .i64 k)
theorem number_any (n : Int) (w : World) : Calls Tryz.prog 39 #[.int .i64 n] w fun e w' => e = .returned (.bool (numB n)) ∧ w = w' := by
  have h : n < 0 ∨ (0 ≤ n ∧ 1000000 < n) ∨ (0 ≤ n ∧ n ≤ 1000000) := by omega
  rcases h with h | ⟨h, h2⟩ | ⟨h, h2⟩
  · have e1 : numB n = false := by simp [numB]; omega
    have f1 : decide (0 ≤ n) = false := decide_eq_false (by omega)
    rw [e1]
    go_enter Tryz.func39, Tryz.ntmps39
    go_wp2
    go_ret
    exact ⟨by first | rfl | (simp; omega), rfl⟩
  · have e1 : numB n = false := by simp [numB]; omega
    have f1 : decide (0 ≤ n) = true := decide_eq_true h
    rw [e1]
    go_enter Tryz.func39, Tryz.ntmps39
    go_wp2
    go_ret
    exact ⟨by first | rfl | (simp; omega), rfl⟩
  · have e1 : numB n = true := by simp [numB]; omega
    have f1 : decide (0 ≤ n) = true := decide_eq_true h
    rw [e1]
    go_enter Tryz.func39, Tryz.ntmps39
    go_wp2
    go_ret
    exact ⟨by first | rfl | (simp; omega), rfl⟩
set_option maxRecDepth 100000 in
set_option maxHeartbeats 8000000 in
theorem check_any (en : En) (w : World) : Calls Tryz.prog 20 #[enV en] w fun e w' => e = .returned (errV (checkE en)) ∧ Below w.heap.size w w' := by
  have HN1 := Lib.hid (number_any en.time)
  have HN2 := Lib.hid (number_any en.bytes)
  have HN3 := Lib.hid (number_any en.took)
  have HT := Lib.hid (token_any en.method)
  have HW := Lib.hid (word_any en.path)
  have HCH : Hid (checkE en = if numB en.time && numB en.bytes && numB en.took && decide (100 ≤ en.code ∧ en.code ≤ 599) then (if tokL en.method.data.toList && wordL en.path.data.toList then 0 else 2) else 1) := rfl
  obtain ⟨tm, cd, by_, tk, me, pa⟩ := en
  simp only [enV] at *
  have hway : numB tm = false ∨ (numB tm = true ∧ numB by_ = false) ∨ (numB tm = true ∧ numB by_ = true ∧ numB tk = false) ∨ (numB tm = true ∧ numB by_ = true ∧ numB tk = true ∧ cd < 100) ∨ (numB tm = true ∧ numB by_ = true ∧ numB tk = true ∧ 100 ≤ cd ∧ 599 < cd) ∨ (numB tm = true ∧ numB by_ = true ∧ numB tk = true ∧ 100 ≤ cd ∧ cd ≤ 599) := by
    cases numB tm <;> cases numB by_ <;> cases numB tk <;> simp <;> omega
  obtain ⟨t, ht⟩ : ∃ t, tokL me.data.toList = t := ⟨_, rfl⟩
  obtain ⟨x, hx⟩ : ∃ x, wordL pa.data.toList = x := ⟨_, rfl⟩
  rw [ht] at HT HCH
  rw [hx] at HW HCH
  clear ht hx
  generalize numB tm = b1 at *
  generalize numB by_ = b2 at *
  generalize numB tk = b3 at *
  have HB0 : Hid (Below w.heap.size w (w.alloc (.cells #[.int .i64 tm, .int .i64 cd, .int .i64 by_, .int .i64 tk, .string me, .string pa] 23))) := (Below.refl _ _).alloc (Nat.le_refl _) _
  have hcd : decide (100 ≤ cd ∧ cd ≤ 599) = (decide (100 ≤ cd) && decide (cd ≤ 599)) := by simp [Bool.decide_and]
  rw [hcd] at HCH
  clear hcd
  rcases hway with rfl | ⟨rfl, rfl⟩ | ⟨rfl, rfl, rfl⟩ | ⟨rfl, rfl, rfl, hc⟩ | ⟨rfl, rfl, rfl, hc, hc2⟩ | ⟨rfl, rfl, rfl, hc, hc2⟩
  · simp only [Bool.false_and, Bool.and_false, Bool.true_and, Bool.and_true, Bool.false_eq_true, if_false] at HCH
    rw [HCH.out]
    go_enter Tryz.func20, Tryz.ntmps20
    go_wp2_with (first
      | (go_at_call 39; (with_reducible refine (HN1.out _).mono ?_); rintro e w1 ⟨rfl, rfl⟩)
      | (go_at_call 39; (with_reducible refine (HN2.out _).mono ?_); rintro e w1 ⟨rfl, rfl⟩)
      | (go_at_call 39; (with_reducible refine (HN3.out _).mono ?_); rintro e w1 ⟨rfl, rfl⟩)
      | (go_at_call 40; refine (HT.out _).mono ?_; rintro e w2 ⟨rfl, hB2⟩; have q5 : w2.cell? ⟨w.heap.size, 5, none⟩ = some (.string pa) := (hB2.cell (p := ⟨w.heap.size, 5, none⟩) (by simp)).trans (by simp); have HB2 := Lib.hid (HB0.out.trans (hB2.mono HB0.out.size)); clear hB2)
      | (go_at_call 41; refine (HW.out _).mono ?_; rintro e w3 ⟨rfl, hB3⟩; have HB3 := Lib.hid (HB2.out.trans (hB3.mono HB2.out.size)); clear hB3)
      | fail)
    go_ret
    exact ⟨rfl, HB0.out⟩
  · simp only [Bool.false_and, Bool.and_false, Bool.true_and, Bool.and_true, Bool.false_eq_true, if_false] at HCH
    rw [HCH.out]
    go_enter Tryz.func20, Tryz.ntmps20
    go_wp2_with (first
      | (go_at_call 39; (with_reducible refine (HN1.out _).mono ?_); rintro e w1 ⟨rfl, rfl⟩)
      | (go_at_call 39; (with_reducible refine (HN2.out _).mono ?_); rintro e w1 ⟨rfl, rfl⟩)
      | (go_at_call 39; (with_reducible refine (HN3.out _).mono ?_); rintro e w1 ⟨rfl, rfl⟩)
      | (go_at_call 40; refine (HT.out _).mono ?_; rintro e w2 ⟨rfl, hB2⟩; have q5 : w2.cell? ⟨w.heap.size, 5, none⟩ = some (.string pa) := (hB2.cell (p := ⟨w.heap.size, 5, none⟩) (by simp)).trans (by simp); have HB2 := Lib.hid (HB0.out.trans (hB2.mono HB0.out.size)); clear hB2)
      | (go_at_call 41; refine (HW.out _).mono ?_; rintro e w3 ⟨rfl, hB3⟩; have HB3 := Lib.hid (HB2.out.trans (hB3.mono HB2.out.size)); clear hB3)
      | fail)
    go_ret
    exact ⟨rfl, HB0.out⟩
  · simp only [Bool.false_and, Bool.and_false, Bool.true_and, Bool.and_true, Bool.false_eq_true, if_false] at HCH
    rw [HCH.out]
    go_enter Tryz.func20, Tryz.ntmps20
    go_wp2_with (first
      | (go_at_call 39; (with_reducible refine (HN1.out _).mono ?_); rintro e w1 ⟨rfl, rfl⟩)
      | (go_at_call 39; (with_reducible refine (HN2.out _).mono ?_); rintro e w1 ⟨rfl, rfl⟩)
      | (go_at_call 39; (with_reducible refine (HN3.out _).mono ?_); rintro e w1 ⟨rfl, rfl⟩)
      | (go_at_call 40; refine (HT.out _).mono ?_; rintro e w2 ⟨rfl, hB2⟩; have q5 : w2.cell? ⟨w.heap.size, 5, none⟩ = some (.string pa) := (hB2.cell (p := ⟨w.heap.size, 5, none⟩) (by simp)).trans (by simp); have HB2 := Lib.hid (HB0.out.trans (hB2.mono HB0.out.size)); clear hB2)
      | (go_at_call 41; refine (HW.out _).mono ?_; rintro e w3 ⟨rfl, hB3⟩; have HB3 := Lib.hid (HB2.out.trans (hB3.mono HB2.out.size)); clear hB3)
      | fail)
    go_ret
    exact ⟨rfl, HB0.out⟩
  · have f1 : decide (100 ≤ cd) = false := decide_eq_false (by omega)
    simp only [f1, Bool.false_and, Bool.and_false, Bool.true_and, Bool.and_true, Bool.false_eq_true, if_false] at HCH
    rw [HCH.out]
    have g1 : decide (cd < 100) = true := decide_eq_true hc
    clear f1
    go_enter Tryz.func20, Tryz.ntmps20
    go_wp2_with (first
      | (go_at_call 39; (with_reducible refine (HN1.out _).mono ?_); rintro e w1 ⟨rfl, rfl⟩)
      | (go_at_call 39; (with_reducible refine (HN2.out _).mono ?_); rintro e w1 ⟨rfl, rfl⟩)
      | (go_at_call 39; (with_reducible refine (HN3.out _).mono ?_); rintro e w1 ⟨rfl, rfl⟩)
      | (go_at_call 40; refine (HT.out _).mono ?_; rintro e w2 ⟨rfl, hB2⟩; have q5 : w2.cell? ⟨w.heap.size, 5, none⟩ = some (.string pa) := (hB2.cell (p := ⟨w.heap.size, 5, none⟩) (by simp)).trans (by simp); have HB2 := Lib.hid (HB0.out.trans (hB2.mono HB0.out.size)); clear hB2)
      | (go_at_call 41; refine (HW.out _).mono ?_; rintro e w3 ⟨rfl, hB3⟩; have HB3 := Lib.hid (HB2.out.trans (hB3.mono HB2.out.size)); clear hB3)
      | fail)
    go_ret
    exact ⟨rfl, HB0.out⟩
  · have f1 : decide (100 ≤ cd) = true := decide_eq_true hc
    have f2 : decide (cd ≤ 599) = false := decide_eq_false (by omega)
    simp only [f1, f2, Bool.false_and, Bool.and_false, Bool.true_and, Bool.and_true, Bool.false_eq_true, if_false] at HCH
    rw [HCH.out]
    have g1 : decide (cd < 100) = false := decide_eq_false (by omega)
    have g2 : decide (599 < cd) = true := decide_eq_true hc2
    clear f1 f2
    go_enter Tryz.func20, Tryz.ntmps20
    go_wp2_with (first
      | (go_at_call 39; (with_reducible refine (HN1.out _).mono ?_); rintro e w1 ⟨rfl, rfl⟩)
      | (go_at_call 39; (with_reducible refine (HN2.out _).mono ?_); rintro e w1 ⟨rfl, rfl⟩)
      | (go_at_call 39; (with_reducible refine (HN3.out _).mono ?_); rintro e w1 ⟨rfl, rfl⟩)
      | (go_at_call 40; refine (HT.out _).mono ?_; rintro e w2 ⟨rfl, hB2⟩; have q5 : w2.cell? ⟨w.heap.size, 5, none⟩ = some (.string pa) := (hB2.cell (p := ⟨w.heap.size, 5, none⟩) (by simp)).trans (by simp); have HB2 := Lib.hid (HB0.out.trans (hB2.mono HB0.out.size)); clear hB2)
      | (go_at_call 41; refine (HW.out _).mono ?_; rintro e w3 ⟨rfl, hB3⟩; have HB3 := Lib.hid (HB2.out.trans (hB3.mono HB2.out.size)); clear hB3)
      | fail)
    go_ret
    exact ⟨rfl, HB0.out⟩
  · have f1 : decide (100 ≤ cd) = true := decide_eq_true hc
    have f2 : decide (cd ≤ 599) = true := decide_eq_true hc2
    have g1 : decide (cd < 100) = false := decide_eq_false (by omega)
    have g2 : decide (599 < cd) = false := decide_eq_false (by omega)
    simp only [f1, f2, Bool.true_and, if_true] at HCH
    clear f1 f2
    cases t
    · simp only [Bool.false_and, Bool.false_eq_true, if_false] at HCH
      rw [HCH.out]
      go_enter Tryz.func20, Tryz.ntmps20
      go_wp2_with (first
      | (go_at_call 39; (with_reducible refine (HN1.out _).mono ?_); rintro e w1 ⟨rfl, rfl⟩)
      | (go_at_call 39; (with_reducible refine (HN2.out _).mono ?_); rintro e w1 ⟨rfl, rfl⟩)
      | (go_at_call 39; (with_reducible refine (HN3.out _).mono ?_); rintro e w1 ⟨rfl, rfl⟩)
      | (go_at_call 40; refine (HT.out _).mono ?_; rintro e w2 ⟨rfl, hB2⟩; have q5 : w2.cell? ⟨w.heap.size, 5, none⟩ = some (.string pa) := (hB2.cell (p := ⟨w.heap.size, 5, none⟩) (by simp)).trans (by simp); have HB2 := Lib.hid (HB0.out.trans (hB2.mono HB0.out.size)); clear hB2)
      | (go_at_call 41; refine (HW.out _).mono ?_; rintro e w3 ⟨rfl, hB3⟩; have HB3 := Lib.hid (HB2.out.trans (hB3.mono HB2.out.size)); clear hB3)
      | fail)
      go_ret
      exact ⟨rfl, HB2.out⟩
    · cases x
      · simp only [Bool.true_and, Bool.false_eq_true, if_false] at HCH
        rw [HCH.out]
        go_enter Tryz.func20, Tryz.ntmps20
        go_wp2_with (first
      | (go_at_call 39; (with_reducible refine (HN1.out _).mono ?_); rintro e w1 ⟨rfl, rfl⟩)
      | (go_at_call 39; (with_reducible refine (HN2.out _).mono ?_); rintro e w1 ⟨rfl, rfl⟩)
      | (go_at_call 39; (with_reducible refine (HN3.out _).mono ?_); rintro e w1 ⟨rfl, rfl⟩)
      | (go_at_call 40; refine (HT.out _).mono ?_; rintro e w2 ⟨rfl, hB2⟩; have q5 : w2.cell? ⟨w.heap.size, 5, none⟩ = some (.string pa) := (hB2.cell (p := ⟨w.heap.size, 5, none⟩) (by simp)).trans (by simp); have HB2 := Lib.hid (HB0.out.trans (hB2.mono HB0.out.size)); clear hB2)
      | (go_at_call 41; refine (HW.out _).mono ?_; rintro e w3 ⟨rfl, hB3⟩; have HB3 := Lib.hid (HB2.out.trans (hB3.mono HB2.out.size)); clear hB3)
      | fail)
        go_ret
        exact ⟨rfl, HB3.out⟩
      · simp only [Bool.true_and, if_true] at HCH
        rw [HCH.out]
        go_enter Tryz.func20, Tryz.ntmps20
        go_wp2_with (first
      | (go_at_call 39; (with_reducible refine (HN1.out _).mono ?_); rintro e w1 ⟨rfl, rfl⟩)
      | (go_at_call 39; (with_reducible refine (HN2.out _).mono ?_); rintro e w1 ⟨rfl, rfl⟩)
      | (go_at_call 39; (with_reducible refine (HN3.out _).mono ?_); rintro e w1 ⟨rfl, rfl⟩)
      | (go_at_call 40; refine (HT.out _).mono ?_; rintro e w2 ⟨rfl, hB2⟩; have q5 : w2.cell? ⟨w.heap.size, 5, none⟩ = some (.string pa) := (hB2.cell (p := ⟨w.heap.size, 5, none⟩) (by simp)).trans (by simp); have HB2 := Lib.hid (HB0.out.trans (hB2.mono HB0.out.size)); clear hB2)
      | (go_at_call 41; refine (HW.out _).mono ?_; rintro e w3 ⟨rfl, hB3⟩; have HB3 := Lib.hid (HB2.out.trans (hB3.mono HB2.out.size)); clear hB3)
      | fail)
        go_ret
        exact ⟨rfl, HB3.out⟩
end Go.Proofs.YtcpkikillmmjcaaGreatDoor.LogC
