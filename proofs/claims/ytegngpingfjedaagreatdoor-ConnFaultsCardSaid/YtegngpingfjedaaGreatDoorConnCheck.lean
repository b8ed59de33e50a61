/-
  frame.Check of frames that are right: Ping, Bye, kinds that are not known.
  Conditions: which frames.
-/
import Derived.Test.YtegngpingfjedaaGreatDoorConnSt
import Derived.Deep.CutRange
namespace Go.Proofs.YtegngpingfjedaaGreatDoor.ConnS
open Go.RowKit ModL ConnR BA WireBig SlicesB FrameC
set_option linter.unusedVariables false
set_option linter.unusedSimpArgs false

/-- A frame that is right by itself, other than Set. -/
def rightF (f : Fr) : Prop := (f.kind = 5 ∧ f.stream = 0 ∧ f.body.length = 8) ∨ (f.kind = 6 ∧ f.stream = 0 ∧ f.body.length = 8) ∨ 8 ≤ f.kind
set_option maxRecDepth 100000 in
set_option maxHeartbeats 4000000 in
theorem sizes_right (f : Fr) (a : Option Addr) (c : Nat) (hf : rightF f) (w : World) :
    Calls Tryz.prog 64 #[.agg #[.int .i64 f.kind, .int .i64 f.flags, .int .i64 f.stream, .slice a f.body.length c]] w fun e w' => e = .returned (.bool true) ∧ Below w.heap.size w w' := by
  obtain ⟨k, fl, st, body⟩ := f
  simp only
  generalize hn : body.length = n at *
  have hf' : (k = 5 ∧ st = 0 ∧ n = 8) ∨ (k = 6 ∧ st = 0 ∧ n = 8) ∨ 8 ≤ k := by rw [← hn]; exact hf
  clear hf hn
  rcases hf' with ⟨rfl, rfl, rfl⟩ | ⟨rfl, rfl, rfl⟩ | hk
  · go_enter Tryz.func64, Tryz.ntmps64
    go_wp2_with fail
    go_ret
    exact ⟨rfl, (Below.refl _ _).alloc (Nat.le_refl _) _⟩
  · go_enter Tryz.func64, Tryz.ntmps64
    go_wp2_with fail
    go_ret
    exact ⟨rfl, (Below.refl _ _).alloc (Nat.le_refl _) _⟩
  · have k3 : ¬ k = 3 := by omega
    have k4 : ¬ k = 4 := by omega
    have k5 : ¬ k = 5 := by omega
    have k6 : ¬ k = 6 := by omega
    have k7 : ¬ k = 7 := by omega
    have b3 : (k == 3) = false := beq_false_of_ne k3
    have b4 : (k == 4) = false := beq_false_of_ne k4
    have b5 : (k == 5) = false := beq_false_of_ne k5
    have b6 : (k == 6) = false := beq_false_of_ne k6
    have b7 : (k == 7) = false := beq_false_of_ne k7
    clear hk
    go_enter Tryz.func64, Tryz.ntmps64
    go_wp2_with fail
    go_ret
    exact ⟨rfl, (Below.refl _ _).alloc (Nat.le_refl _) _⟩
set_option maxRecDepth 100000 in
set_option maxHeartbeats 4000000 in
theorem check_right (f : Fr) (a : Option Addr) (c : Nat) (hf : rightF f) (w : World) :
    Calls Tryz.prog 29 #[.agg #[.int .i64 f.kind, .int .i64 f.flags, .int .i64 f.stream, .slice a f.body.length c]] w fun e w' => e = .returned (.int .i64 0) ∧ Below w.heap.size w w' := by
  have HS := Lib.hid (fun W => sizes_right f a c hf W)
  obtain ⟨k, fl, st, body⟩ := f
  simp only at HS ⊢
  generalize hn : body.length = n at *
  have hf' : (k = 5 ∧ st = 0 ∧ n = 8) ∨ (k = 6 ∧ st = 0 ∧ n = 8) ∨ 8 ≤ k := by rw [← hn]; exact hf
  clear hf hn
  rcases hf' with ⟨rfl, rfl, rfl⟩ | ⟨rfl, rfl, rfl⟩ | hk
  · go_enter Tryz.func29, Tryz.ntmps29
    go_upto_region 13 with fail
    have hB0 : Below w.heap.size w ((w.alloc (.cells #[.int .i64 5, .int .i64 fl, .int .i64 0, .slice a 8 c] 38)).alloc (.cells #[.int .i64 0] 3)) := ((Below.refl _ _).alloc (Nat.le_refl _) _).alloc (by simp) _
    have p0 : ((w.alloc (.cells #[.int .i64 5, .int .i64 fl, .int .i64 0, .slice a 8 c] 38)).alloc (.cells #[.int .i64 0] 3)).cell? ⟨w.heap.size, 0, none⟩ = some (.int .i64 5) := (cell_alloc (w.alloc (.cells #[.int .i64 5, .int .i64 fl, .int .i64 0, .slice a 8 c] 38)) _ w.heap.size 0 (by simp)).trans (by simp)
    have p1 : ((w.alloc (.cells #[.int .i64 5, .int .i64 fl, .int .i64 0, .slice a 8 c] 38)).alloc (.cells #[.int .i64 0] 3)).cell? ⟨w.heap.size, 1, none⟩ = some (.int .i64 fl) := (cell_alloc (w.alloc (.cells #[.int .i64 5, .int .i64 fl, .int .i64 0, .slice a 8 c] 38)) _ w.heap.size 1 (by simp)).trans (by simp)
    have p2 : ((w.alloc (.cells #[.int .i64 5, .int .i64 fl, .int .i64 0, .slice a 8 c] 38)).alloc (.cells #[.int .i64 0] 3)).cell? ⟨w.heap.size, 2, none⟩ = some (.int .i64 0) := (cell_alloc (w.alloc (.cells #[.int .i64 5, .int .i64 fl, .int .i64 0, .slice a 8 c] 38)) _ w.heap.size 2 (by simp)).trans (by simp)
    have p3 : ((w.alloc (.cells #[.int .i64 5, .int .i64 fl, .int .i64 0, .slice a 8 c] 38)).alloc (.cells #[.int .i64 0] 3)).cell? ⟨w.heap.size, 3, none⟩ = some (.slice a 8 c) := (cell_alloc (w.alloc (.cells #[.int .i64 5, .int .i64 fl, .int .i64 0, .slice a 8 c] 38)) _ w.heap.size 3 (by simp)).trans (by simp)
    have r0 : ((w.alloc (.cells #[.int .i64 5, .int .i64 fl, .int .i64 0, .slice a 8 c] 38)).alloc (.cells #[.int .i64 0] 3)).cell? ⟨w.heap.size + 1, 0, none⟩ = some (.int .i64 0) := by
      have h : w.heap.size + 1 = (w.alloc (.cells #[.int .i64 5, .int .i64 fl, .int .i64 0, .slice a 8 c] 38)).heap.size := by simp
      rw [h]; simp
    have rf : ((w.alloc (.cells #[.int .i64 5, .int .i64 fl, .int .i64 0, .slice a 8 c] 38)).alloc (.cells #[.int .i64 0] 3)).frozen? ⟨w.heap.size + 1, 0, none⟩ = false := by
      have h : w.heap.size + 1 = (w.alloc (.cells #[.int .i64 5, .int .i64 fl, .int .i64 0, .slice a 8 c] 38)).heap.size := by simp
      rw [h]; simp
    have hs : w.heap.size + 1 < ((w.alloc (.cells #[.int .i64 5, .int .i64 fl, .int .i64 0, .slice a 8 c] 38)).alloc (.cells #[.int .i64 0] 3)).heap.size := by simp
    generalize (w.alloc (.cells #[.int .i64 5, .int .i64 fl, .int .i64 0, .slice a 8 c] 38)).alloc (.cells #[.int .i64 0] 3) = W0 at *
    go_wp2_with (first
      | (go_at_call 64; refine (HS.out W0).mono ?_; rintro e w2 ⟨rfl, hB2⟩; have q0 := (hB2.cell (p := ⟨w.heap.size, 0, none⟩) (Nat.lt_trans (Nat.lt_succ_self _) hs)).trans p0; have q1 := (hB2.cell (p := ⟨w.heap.size, 1, none⟩) (Nat.lt_trans (Nat.lt_succ_self _) hs)).trans p1; have q2 := (hB2.cell (p := ⟨w.heap.size, 2, none⟩) (Nat.lt_trans (Nat.lt_succ_self _) hs)).trans p2; have q3 := (hB2.cell (p := ⟨w.heap.size, 3, none⟩) (Nat.lt_trans (Nat.lt_succ_self _) hs)).trans p3; have s0 := (hB2.cell (p := ⟨w.heap.size + 1, 0, none⟩) hs).trans r0; have sf := (hB2.frozen (p := ⟨w.heap.size + 1, 0, none⟩) hs).trans rf; have HB2 := Lib.hid (hB0.trans (hB2.mono hB0.size)); clear hB2 p0 p1 p2 p3 r0 rf)
      | fail)
    have z0 := World.cell?_setCell_same _ _ (.int .i64 0) s0
    refine bodyPost_ret (v := .int .i64 0) (by simp [results, Tryz.results29, go_sem, z0]) rfl ⟨rfl, ?_⟩
    exact HB2.out.setCell (by simp) _
  · go_enter Tryz.func29, Tryz.ntmps29
    go_upto_region 13 with fail
    have hB0 : Below w.heap.size w ((w.alloc (.cells #[.int .i64 6, .int .i64 fl, .int .i64 0, .slice a 8 c] 38)).alloc (.cells #[.int .i64 0] 3)) := ((Below.refl _ _).alloc (Nat.le_refl _) _).alloc (by simp) _
    have p0 : ((w.alloc (.cells #[.int .i64 6, .int .i64 fl, .int .i64 0, .slice a 8 c] 38)).alloc (.cells #[.int .i64 0] 3)).cell? ⟨w.heap.size, 0, none⟩ = some (.int .i64 6) := (cell_alloc (w.alloc (.cells #[.int .i64 6, .int .i64 fl, .int .i64 0, .slice a 8 c] 38)) _ w.heap.size 0 (by simp)).trans (by simp)
    have p1 : ((w.alloc (.cells #[.int .i64 6, .int .i64 fl, .int .i64 0, .slice a 8 c] 38)).alloc (.cells #[.int .i64 0] 3)).cell? ⟨w.heap.size, 1, none⟩ = some (.int .i64 fl) := (cell_alloc (w.alloc (.cells #[.int .i64 6, .int .i64 fl, .int .i64 0, .slice a 8 c] 38)) _ w.heap.size 1 (by simp)).trans (by simp)
    have p2 : ((w.alloc (.cells #[.int .i64 6, .int .i64 fl, .int .i64 0, .slice a 8 c] 38)).alloc (.cells #[.int .i64 0] 3)).cell? ⟨w.heap.size, 2, none⟩ = some (.int .i64 0) := (cell_alloc (w.alloc (.cells #[.int .i64 6, .int .i64 fl, .int .i64 0, .slice a 8 c] 38)) _ w.heap.size 2 (by simp)).trans (by simp)
    have p3 : ((w.alloc (.cells #[.int .i64 6, .int .i64 fl, .int .i64 0, .slice a 8 c] 38)).alloc (.cells #[.int .i64 0] 3)).cell? ⟨w.heap.size, 3, none⟩ = some (.slice a 8 c) := (cell_alloc (w.alloc (.cells #[.int .i64 6, .int .i64 fl, .int .i64 0, .slice a 8 c] 38)) _ w.heap.size 3 (by simp)).trans (by simp)
    have r0 : ((w.alloc (.cells #[.int .i64 6, .int .i64 fl, .int .i64 0, .slice a 8 c] 38)).alloc (.cells #[.int .i64 0] 3)).cell? ⟨w.heap.size + 1, 0, none⟩ = some (.int .i64 0) := by
      have h : w.heap.size + 1 = (w.alloc (.cells #[.int .i64 6, .int .i64 fl, .int .i64 0, .slice a 8 c] 38)).heap.size := by simp
      rw [h]; simp
    have rf : ((w.alloc (.cells #[.int .i64 6, .int .i64 fl, .int .i64 0, .slice a 8 c] 38)).alloc (.cells #[.int .i64 0] 3)).frozen? ⟨w.heap.size + 1, 0, none⟩ = false := by
      have h : w.heap.size + 1 = (w.alloc (.cells #[.int .i64 6, .int .i64 fl, .int .i64 0, .slice a 8 c] 38)).heap.size := by simp
      rw [h]; simp
    have hs : w.heap.size + 1 < ((w.alloc (.cells #[.int .i64 6, .int .i64 fl, .int .i64 0, .slice a 8 c] 38)).alloc (.cells #[.int .i64 0] 3)).heap.size := by simp
    generalize (w.alloc (.cells #[.int .i64 6, .int .i64 fl, .int .i64 0, .slice a 8 c] 38)).alloc (.cells #[.int .i64 0] 3) = W0 at *
    go_wp2_with (first
      | (go_at_call 64; refine (HS.out W0).mono ?_; rintro e w2 ⟨rfl, hB2⟩; have q0 := (hB2.cell (p := ⟨w.heap.size, 0, none⟩) (Nat.lt_trans (Nat.lt_succ_self _) hs)).trans p0; have q1 := (hB2.cell (p := ⟨w.heap.size, 1, none⟩) (Nat.lt_trans (Nat.lt_succ_self _) hs)).trans p1; have q2 := (hB2.cell (p := ⟨w.heap.size, 2, none⟩) (Nat.lt_trans (Nat.lt_succ_self _) hs)).trans p2; have q3 := (hB2.cell (p := ⟨w.heap.size, 3, none⟩) (Nat.lt_trans (Nat.lt_succ_self _) hs)).trans p3; have s0 := (hB2.cell (p := ⟨w.heap.size + 1, 0, none⟩) hs).trans r0; have sf := (hB2.frozen (p := ⟨w.heap.size + 1, 0, none⟩) hs).trans rf; have HB2 := Lib.hid (hB0.trans (hB2.mono hB0.size)); clear hB2 p0 p1 p2 p3 r0 rf)
      | fail)
    have z0 := World.cell?_setCell_same _ _ (.int .i64 0) s0
    refine bodyPost_ret (v := .int .i64 0) (by simp [results, Tryz.results29, go_sem, z0]) rfl ⟨rfl, ?_⟩
    exact HB2.out.setCell (by simp) _
  · have k0 : ¬ k = 0 := by omega
    have k1 : ¬ k = 1 := by omega
    have k2 : ¬ k = 2 := by omega
    have k3 : ¬ k = 3 := by omega
    have k4 : ¬ k = 4 := by omega
    have k5 : ¬ k = 5 := by omega
    have k6 : ¬ k = 6 := by omega
    have k7 : ¬ k = 7 := by omega
    have b0 : (k == 0) = false := beq_false_of_ne k0
    have b1 : (k == 1) = false := beq_false_of_ne k1
    have b2 : (k == 2) = false := beq_false_of_ne k2
    have b3 : (k == 3) = false := beq_false_of_ne k3
    have b4 : (k == 4) = false := beq_false_of_ne k4
    have b5 : (k == 5) = false := beq_false_of_ne k5
    have b6 : (k == 6) = false := beq_false_of_ne k6
    have b7 : (k == 7) = false := beq_false_of_ne k7
    clear hk
    go_enter Tryz.func29, Tryz.ntmps29
    go_upto_region 13 with fail
    have hB0 : Below w.heap.size w ((w.alloc (.cells #[.int .i64 k, .int .i64 fl, .int .i64 st, .slice a n c] 38)).alloc (.cells #[.int .i64 0] 3)) := ((Below.refl _ _).alloc (Nat.le_refl _) _).alloc (by simp) _
    have p0 : ((w.alloc (.cells #[.int .i64 k, .int .i64 fl, .int .i64 st, .slice a n c] 38)).alloc (.cells #[.int .i64 0] 3)).cell? ⟨w.heap.size, 0, none⟩ = some (.int .i64 k) := (cell_alloc (w.alloc (.cells #[.int .i64 k, .int .i64 fl, .int .i64 st, .slice a n c] 38)) _ w.heap.size 0 (by simp)).trans (by simp)
    have p1 : ((w.alloc (.cells #[.int .i64 k, .int .i64 fl, .int .i64 st, .slice a n c] 38)).alloc (.cells #[.int .i64 0] 3)).cell? ⟨w.heap.size, 1, none⟩ = some (.int .i64 fl) := (cell_alloc (w.alloc (.cells #[.int .i64 k, .int .i64 fl, .int .i64 st, .slice a n c] 38)) _ w.heap.size 1 (by simp)).trans (by simp)
    have p2 : ((w.alloc (.cells #[.int .i64 k, .int .i64 fl, .int .i64 st, .slice a n c] 38)).alloc (.cells #[.int .i64 0] 3)).cell? ⟨w.heap.size, 2, none⟩ = some (.int .i64 st) := (cell_alloc (w.alloc (.cells #[.int .i64 k, .int .i64 fl, .int .i64 st, .slice a n c] 38)) _ w.heap.size 2 (by simp)).trans (by simp)
    have p3 : ((w.alloc (.cells #[.int .i64 k, .int .i64 fl, .int .i64 st, .slice a n c] 38)).alloc (.cells #[.int .i64 0] 3)).cell? ⟨w.heap.size, 3, none⟩ = some (.slice a n c) := (cell_alloc (w.alloc (.cells #[.int .i64 k, .int .i64 fl, .int .i64 st, .slice a n c] 38)) _ w.heap.size 3 (by simp)).trans (by simp)
    have r0 : ((w.alloc (.cells #[.int .i64 k, .int .i64 fl, .int .i64 st, .slice a n c] 38)).alloc (.cells #[.int .i64 0] 3)).cell? ⟨w.heap.size + 1, 0, none⟩ = some (.int .i64 0) := by
      have h : w.heap.size + 1 = (w.alloc (.cells #[.int .i64 k, .int .i64 fl, .int .i64 st, .slice a n c] 38)).heap.size := by simp
      rw [h]; simp
    have rf : ((w.alloc (.cells #[.int .i64 k, .int .i64 fl, .int .i64 st, .slice a n c] 38)).alloc (.cells #[.int .i64 0] 3)).frozen? ⟨w.heap.size + 1, 0, none⟩ = false := by
      have h : w.heap.size + 1 = (w.alloc (.cells #[.int .i64 k, .int .i64 fl, .int .i64 st, .slice a n c] 38)).heap.size := by simp
      rw [h]; simp
    have hs : w.heap.size + 1 < ((w.alloc (.cells #[.int .i64 k, .int .i64 fl, .int .i64 st, .slice a n c] 38)).alloc (.cells #[.int .i64 0] 3)).heap.size := by simp
    generalize (w.alloc (.cells #[.int .i64 k, .int .i64 fl, .int .i64 st, .slice a n c] 38)).alloc (.cells #[.int .i64 0] 3) = W0 at *
    go_wp2_with (first
      | (go_at_call 64; refine (HS.out W0).mono ?_; rintro e w2 ⟨rfl, hB2⟩; have q0 := (hB2.cell (p := ⟨w.heap.size, 0, none⟩) (Nat.lt_trans (Nat.lt_succ_self _) hs)).trans p0; have q1 := (hB2.cell (p := ⟨w.heap.size, 1, none⟩) (Nat.lt_trans (Nat.lt_succ_self _) hs)).trans p1; have q2 := (hB2.cell (p := ⟨w.heap.size, 2, none⟩) (Nat.lt_trans (Nat.lt_succ_self _) hs)).trans p2; have q3 := (hB2.cell (p := ⟨w.heap.size, 3, none⟩) (Nat.lt_trans (Nat.lt_succ_self _) hs)).trans p3; have s0 := (hB2.cell (p := ⟨w.heap.size + 1, 0, none⟩) hs).trans r0; have sf := (hB2.frozen (p := ⟨w.heap.size + 1, 0, none⟩) hs).trans rf; have HB2 := Lib.hid (hB0.trans (hB2.mono hB0.size)); clear hB2 p0 p1 p2 p3 r0 rf)
      | fail)
    have z0 := World.cell?_setCell_same _ _ (.int .i64 0) s0
    refine bodyPost_ret (v := .int .i64 0) (by simp [results, Tryz.results29, go_sem, z0]) rfl ⟨rfl, ?_⟩
    exact HB2.out.setCell (by simp) _
end Go.Proofs.YtegngpingfjedaaGreatDoor.ConnS
