/-
  frame.Word of four bytes or more.
  Conditions: where the bytes lie.
-/
import Derived.Test.YtegngpingfjedaaGreatDoorConnSt
import Derived.Test.YtegngpingfjedaaGreatDoorBits
import Derived.Deep.QuietTactic
import Derived.BigQuiet
import Derived.IntWalk
import Derived.Deep.CutRange
namespace Go.Proofs.YtegngpingfjedaaGreatDoor.ConnS
open Go.RowKit ModL ConnR BA WireBig SlicesB FrameC
set_option linter.unusedVariables false
set_option linter.unusedSimpArgs false

set_option maxRecDepth 100000 in
set_option maxHeartbeats 8000000 in
theorem word_q (a b c d : Int) (r : List Int) (ha : 0 ≤ a ∧ a ≤ 255) (hb : 0 ≤ b ∧ b ≤ 255) (hc : 0 ≤ c ∧ c ≤ 255) (hd : 0 ≤ d ∧ d ≤ 255) (v : Value) (w : World) (hv : BytesAt w v (a :: b :: c :: d :: r)) :
    Calls Tryz.prog 65 #[v] w fun e w' => e = .returned (.int .i64 (a * 16777216 + b * 65536 + c * 256 + d)) ∧ ∃ m, w' = w.drewN m := by
  obtain ⟨av, cv, rfl, h1, h2, h3, hel⟩ := hv.open
  obtain ⟨bb, off, rfl, hlt, c0⟩ := hel 0 (by simp)
  obtain ⟨b1, o1, e1, -, c1⟩ := hel 1 (by simp)
  obtain ⟨b2, o2, e2, -, c2⟩ := hel 2 (by simp)
  obtain ⟨b3, o3, e3, -, c3⟩ := hel 3 (by simp)
  simp only [Option.some.injEq, Addr.mk.injEq, and_true] at e1 e2 e3
  obtain ⟨rfl, rfl⟩ := e1
  obtain ⟨rfl, rfl⟩ := e2
  obtain ⟨rfl, rfl⟩ := e3
  replace c0 : w.cell? ⟨bb, off, none⟩ = some (.int .u8 a) := c0
  replace c1 : w.cell? ⟨bb, off + 1, none⟩ = some (.int .u8 b) := c1
  replace c2 : w.cell? ⟨bb, off + 2, none⟩ = some (.int .u8 c) := c2
  replace c3 : w.cell? ⟨bb, off + 3, none⟩ = some (.int .u8 d) := c3
  obtain ⟨n, hn⟩ : ∃ n, (a :: b :: c :: d :: r).length = n := ⟨_, rfl⟩
  rw [hn] at h1 ⊢
  have hn4 : 4 ≤ n := by rw [← hn]; simp
  have n0 : (0 : Int) < (n : Int) := by omega
  have n1 : (1 : Int) < (n : Int) := by omega
  have n2 : (2 : Int) < (n : Int) := by omega
  have n3 : (3 : Int) < (n : Int) := by omega
  have wa : IntKind.i64.wrap a = a := IntWalk.i64_in _ (by omega)
  have wb : IntKind.i64.wrap b = b := IntWalk.i64_in _ (by omega)
  have wc : IntKind.i64.wrap c = c := IntWalk.i64_in _ (by omega)
  have wd : IntKind.i64.wrap d = d := IntWalk.i64_in _ (by omega)
  clear hel hv hn
  go_enter Tryz.func65, Tryz.ntmps65
  go_upto_region 1 with fail
  go_quiet (fail)
  go_wp2
  go_ret
  have j1 : bits .or .i64 (a * 16777216) (b * 65536) = a * 16777216 + b * 65536 := BitsL.join_i64 24 _ _ (by omega) (by omega) (by omega) (by omega) (by omega) (by omega)
  have j2 : bits .or .i64 (a * 16777216 + b * 65536) (c * 256) = a * 16777216 + b * 65536 + c * 256 := BitsL.join_i64 16 _ _ (by omega) (by omega) (by omega) (by omega) (by omega) (by omega)
  have j3 : bits .or .i64 (a * 16777216 + b * 65536 + c * 256) d = a * 16777216 + b * 65536 + c * 256 + d := BitsL.join_i64 8 _ _ (by omega) (by omega) (by omega) (by omega) (by omega) (by omega)
  exact ⟨by rw [← j3, ← j2, ← j1]; rfl, nq, rfl⟩
theorem word_any (a b c d : Int) (r : List Int) (ha : 0 ≤ a ∧ a ≤ 255) (hb : 0 ≤ b ∧ b ≤ 255) (hc : 0 ≤ c ∧ c ≤ 255) (hd : 0 ≤ d ∧ d ≤ 255) (v : Value) (w : World) (hv : BytesAt w v (a :: b :: c :: d :: r)) :
    Calls Tryz.prog 65 #[v] w fun e w' => e = .returned (.int .i64 (a * 16777216 + b * 65536 + c * 256 + d)) ∧ Below w.heap.size w w' :=
  (word_q a b c d r ha hb hc hd v w hv).mono fun e w' ⟨h, m, hm⟩ => ⟨h, by subst hm; have hB : Below w.heap.size w w := Below.refl _ _; exact ⟨hB.os, hB.tape, hB.output, hB.size, hB.block⟩⟩
end Go.Proofs.YtegngpingfjedaaGreatDoor.ConnS
