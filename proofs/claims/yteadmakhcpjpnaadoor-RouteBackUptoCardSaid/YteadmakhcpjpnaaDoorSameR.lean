/-
  What the laws ask alike, where both sides are the same: lists of routes.
  Conditions: where the data lie.
-/
import Derived.Test.YteadmakhcpjpnaaDoorRoutes
import Derived.Deep.QuietTactic
import Derived.BigQuiet
import Derived.Deep.Draws
import Derived.Laws.StructEq
import Derived.Shelf.SlicesE.Kit
import Derived.Lib.Index
namespace Go.Proofs.YteadmakhcpjpnaaDoor.SameC
open Go.RowKit RowsK RouteC
set_option linter.unusedVariables false
set_option linter.unusedSimpArgs false

theorem below_drewN {B : Nat} {w w' : World} (h : Below B w w') (n : Nat) : Below B w (w'.drewN n) := ⟨h.os, h.tape, h.output, h.size, h.block⟩
theorem neqR (x0 x1 x2 : ByteArray) (w : World) : (binOp .neq 28 (.agg #[.string x0, .string x1, .string x2]) (.agg #[.string x0, .string x1, .string x2])).run Tryd.prog w = .ok (.bool false) w := by
  have hS : Tryd.prog.underlying 28 = some (.struct (Tryd.prog.fieldsOf 28)) := by kernel_rfl
  have hp : Tryd.prog.stoodInHeld 28 = false := by kernel_rfl
  have u := Tryd.underlying9
  have a := Tryd.isAgg9
  have z := Tryd.sizeOf9
  rw [run_neq_struct, show (10000 : Nat) = 9999 + 1 from rfl, run_equalIn_agg w 9999 28 _ _ hS hp]
  simp only [Program.fieldsOf, Tryd.underlying28]
  go_simp
set_option maxRecDepth 100000 in
set_option maxHeartbeats 4000000 in
theorem sameR_any (l : List RT) (va vb : Value) (w : World) (ha : At encR w va l) (hb : At encR w vb l) :
    Calls Tryd.prog 7 #[va, vb] w fun e w' => e = .returned (.bool true) ∧ ∃ n, w' = w.drewN n := by
  obtain ⟨a, cap, rfl, h1, h2, _, hel⟩ := ha
  obtain ⟨a2, cap2, rfl, g1, g2, _, hel2⟩ := hb
  have HEL := Lib.hid hel
  have HEL2 := Lib.hid hel2
  obtain ⟨L, hL⟩ : ∃ L, l.length = L := ⟨_, rfl⟩
  have HL := Lib.hid hL
  rw [hL] at h1 g1 ⊢
  have hq : ((L : Int) != (L : Int)) = false := by simp
  have hneq := neqR
  clear hel hel2 hL
  go_enter Tryd.func7, Tryd.ntmps7
  go_wp2
  go_loopw [5] (fun iv wr => ∃ k n : Nat, iv = .int .i64 k ∧ k ≤ L ∧ wr = w.drewN n) (fun iv _ => L - (intOf iv).toNat)
  case atStart => exact ⟨0, 0, rfl, Nat.zero_le _, rfl⟩
  case round =>
    obtain ⟨k, n, rfl, hk, rfl⟩ := hrel
    by_cases hlt : k < L
    · obtain ⟨b, off, rfl, hb, hc⟩ := HEL.out k (by rw [HL.out]; exact hlt)
      obtain ⟨b2, off2, rfl, hb2, hc2⟩ := HEL2.out k (by rw [HL.out]; exact hlt)
      have c0 : w.cell? ⟨b, off + (k * 3 + 0), none⟩ = some (Value.string (l[k]'(by rw [HL.out]; exact hlt)).host) := hc 0 (by decide)
      have c1 : w.cell? ⟨b, off + (k * 3 + 1), none⟩ = some (Value.string (l[k]'(by rw [HL.out]; exact hlt)).path) := hc 1 (by decide)
      have c2 : w.cell? ⟨b, off + (k * 3 + 2), none⟩ = some (Value.string (l[k]'(by rw [HL.out]; exact hlt)).dest) := hc 2 (by decide)
      have d0 : w.cell? ⟨b2, off2 + (k * 3 + 0), none⟩ = some (Value.string (l[k]'(by rw [HL.out]; exact hlt)).host) := hc2 0 (by decide)
      have d1 : w.cell? ⟨b2, off2 + (k * 3 + 1), none⟩ = some (Value.string (l[k]'(by rw [HL.out]; exact hlt)).path) := hc2 1 (by decide)
      have d2 : w.cell? ⟨b2, off2 + (k * 3 + 2), none⟩ = some (Value.string (l[k]'(by rw [HL.out]; exact hlt)).dest) := hc2 2 (by decide)
      rw [← Nat.add_assoc] at c0 c1 c2 d0 d1 d2
      rw [Nat.add_zero] at c0 d0
      generalize (l[k]'(by rw [HL.out]; exact hlt)) = f at *
      obtain ⟨x, y, z⟩ := f
      simp only at c0 c1 c2 d0 d1 d2
      have hi0 : (0 : Int) ≤ (k : Int) := by omega
      have hi1 : (k : Int) < (L : Int) := by omega
      clear hc hc2
      go_wp2
      go_quiet (fail)
      go_wp2
      go_roundw
      case rel => exact ⟨k + 1, _, by go_num, by omega, rfl⟩
      case measure => simp [intOf]; omega
    · go_wp2
      go_ret
      exact ⟨rfl, _, rfl⟩
end Go.Proofs.YteadmakhcpjpnaaDoor.SameC
