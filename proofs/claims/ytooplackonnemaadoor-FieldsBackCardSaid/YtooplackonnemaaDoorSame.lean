/-
  What the laws ask alike, where both sides are the same: lists of fields, requests, replies.
  Conditions: where the data lie.
-/
import Derived.Test.YtooplackonnemaaDoorFieldRows
import Derived.Test.YtooplackonnemaaDoorLineCheck
import Derived.Test.YtooplackonnemaaDoorBytesAt
import Derived.Deep.QuietTactic
import Derived.BigQuiet
import Derived.Deep.Draws
import Derived.Laws.StructEq
import Derived.Shelf.SlicesE.Kit
import Derived.Lib.Index
namespace Go.Proofs.YtooplackonnemaaDoor.SameC
open Go.RowKit RowsK FieldRows BA LineM
set_option linter.unusedVariables false
set_option linter.unusedSimpArgs false

theorem below_drewN {B : Nat} {w w' : World} (h : Below B w w') (n : Nat) : Below B w (w'.drewN n) := ⟨h.os, h.tape, h.output, h.size, h.block⟩
theorem neqF (x0 x1 : ByteArray) (w : World) : (binOp .neq 33 (.agg #[.string x0, .string x1]) (.agg #[.string x0, .string x1])).run Tryd.prog w = .ok (.bool false) w := by
  have hS : Tryd.prog.underlying 33 = some (.struct (Tryd.prog.fieldsOf 33)) := by kernel_rfl
  have hp : Tryd.prog.stoodInHeld 33 = false := by kernel_rfl
  have u := Tryd.underlying9
  have a := Tryd.isAgg9
  have z := Tryd.sizeOf9
  rw [run_neq_struct, show (10000 : Nat) = 9999 + 1 from rfl, run_equalIn_agg w 9999 33 _ _ hS hp]
  simp only [Program.fieldsOf, Tryd.underlying33]
  go_simp
set_option maxRecDepth 100000 in
set_option maxHeartbeats 4000000 in
theorem sameF_any (l : List Fld) (va vb : Value) (w : World) (ha : At encF w va l) (hb : At encF w vb l) :
    Calls Tryd.prog 10 #[va, vb] w fun e w' => e = .returned (.bool true) ∧ ∃ n, w' = w.drewN n := by
  obtain ⟨a, cap, rfl, h1, h2, _, hel⟩ := ha
  obtain ⟨a2, cap2, rfl, g1, g2, _, hel2⟩ := hb
  have HEL := Lib.hid hel
  have HEL2 := Lib.hid hel2
  obtain ⟨L, hL⟩ : ∃ L, l.length = L := ⟨_, rfl⟩
  have HL := Lib.hid hL
  rw [hL] at h1 g1 ⊢
  have hq : ((L : Int) != (L : Int)) = false := by simp
  have hneq := neqF
  clear hel hel2 hL
  go_enter Tryd.func10, Tryd.ntmps10
  go_wp2
  go_loopw [5] (fun iv wr => ∃ k n : Nat, iv = .int .i64 k ∧ k ≤ L ∧ wr = w.drewN n) (fun iv _ => L - (intOf iv).toNat)
  case atStart => exact ⟨0, 0, rfl, Nat.zero_le _, rfl⟩
  case round =>
    obtain ⟨k, n, rfl, hk, rfl⟩ := hrel
    by_cases hlt : k < L
    · obtain ⟨b, off, rfl, hb, hc⟩ := HEL.out k (by rw [HL.out]; exact hlt)
      obtain ⟨b2, off2, rfl, hb2, hc2⟩ := HEL2.out k (by rw [HL.out]; exact hlt)
      have c0 : w.cell? ⟨b, off + (k * 2 + 0), none⟩ = some (Value.string (l[k]'(by rw [HL.out]; exact hlt)).1) := hc 0 (by decide)
      have c1 : w.cell? ⟨b, off + (k * 2 + 1), none⟩ = some (Value.string (l[k]'(by rw [HL.out]; exact hlt)).2) := hc 1 (by decide)
      have d0 : w.cell? ⟨b2, off2 + (k * 2 + 0), none⟩ = some (Value.string (l[k]'(by rw [HL.out]; exact hlt)).1) := hc2 0 (by decide)
      have d1 : w.cell? ⟨b2, off2 + (k * 2 + 1), none⟩ = some (Value.string (l[k]'(by rw [HL.out]; exact hlt)).2) := hc2 1 (by decide)
      rw [← Nat.add_assoc] at c0 c1 d0 d1
      rw [Nat.add_zero] at c0 d0
      generalize (l[k]'(by rw [HL.out]; exact hlt)) = f at *
      obtain ⟨x, y⟩ := f
      simp only at c0 c1 d0 d1
      have hi0 : (0 : Int) ≤ (k : Int) := by omega
      have hi1 : (k : Int) < (L : Int) := by omega
      clear hc hc2
      go_wp2
      go_quiet (fail)
      go_wp2
      go_roundw
      case rel => exact ⟨k + 1, _, by go_num, by omega, rfl⟩
      case measure => simp [intOf]; omega
    · go_wp2
      go_ret
      exact ⟨rfl, _, rfl⟩
set_option maxRecDepth 100000 in
set_option maxHeartbeats 4000000 in
theorem sameR_any (q : Rq) (vf vb vf2 vb2 : Value) (w : World) (hf : At encF w vf q.fields) (hf2 : At encF w vf2 q.fields) (hb : BytesAt w vb q.body) (hb2 : BytesAt w vb2 q.body) (hz : ∀ z ∈ q.body, 0 ≤ z ∧ z ≤ 255) :
    Calls Tryd.prog 6 #[rqV q vf vb, rqV q vf2 vb2] w fun e w' => e = .returned (.bool true) ∧ Below w.heap.size w w' := by
  obtain ⟨m, pa, ho, fl, bo⟩ := q
  simp only at hf hf2 hb hb2 hz
  unfold rqV
  obtain ⟨W, hW⟩ : ∃ W, W = (w.alloc (.cells #[.string m, .string pa, .string ho, vf, vb] 25)).alloc (.cells #[.string m, .string pa, .string ho, vf2, vb2] 25) := ⟨_, rfl⟩
  have hB : Below w.heap.size w W := by rw [hW]; exact ((Below.refl _ _).alloc (Nat.le_refl _) _).alloc (by simp) _
  have HS := Lib.hid (sameF_any fl vf vf2 W (hf.old hB) (hf2.old hB))
  have HC1 := Lib.hid (fun n => conv_back (hb.below (below_drewN hB n)) hz)
  have HC2 := Lib.hid (fun n => conv_back (hb2.below (below_drewN hB n)) hz)
  have HB := Lib.hid hB
  obtain ⟨x1, x2, x3, rfl⟩ : ∃ x n c, vf = .slice x n c := by obtain ⟨x, c, h, _⟩ := hf; exact ⟨_, _, _, h⟩
  obtain ⟨y1, y2, y3, rfl⟩ : ∃ x n c, vf2 = .slice x n c := by obtain ⟨x, c, h, _⟩ := hf2; exact ⟨_, _, _, h⟩
  obtain ⟨z1, z2, z3, rfl⟩ : ∃ x n c, vb = .slice x n c := by obtain ⟨x, c, h, _⟩ := hb.open; exact ⟨_, _, _, h⟩
  obtain ⟨u1, u2, u3, rfl⟩ : ∃ x n c, vb2 = .slice x n c := by obtain ⟨x, c, h, _⟩ := hb2.open; exact ⟨_, _, _, h⟩
  subst hW
  clear hB hf hf2 hb hb2 hz
  go_enter Tryd.func6, Tryd.ntmps6
  go_wp2_with (first
    | (go_at_call 10; (with_reducible refine HS.out.mono ?_); rintro e w1 ⟨rfl, n, rfl⟩; have k1 := HC1.out n; have k2 := HC2.out n))
  go_ret
  exact ⟨by simp, below_drewN HB.out _⟩
end Go.Proofs.YtooplackonnemaaDoor.SameC
