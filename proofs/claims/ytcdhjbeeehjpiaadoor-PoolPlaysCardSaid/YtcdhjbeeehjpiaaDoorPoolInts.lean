/-
  Contract of tollsame.Ints for two rows that read alike.
  Conditions: both are the call's own.
-/
import Derived.Test.YtcdhjbeeehjpiaaDoorPoolSide
import Derived.Deep.RegionHeld3
import Derived.Lib.Hide
namespace Go.Proofs.YtcdhjbeeehjpiaaDoor.PoolX
open Go.RowKit MapsL ModL RowsK RowsM Back LineC PoolC PoolR
set_option linter.unusedSimpArgs false
set_option linter.unusedVariables false

theorem own_cells {w : World} {b : Nat} {a : Option Addr} {n c : Nat} {G : List Int} (h : RowsL.Own w b 3 (.slice a n c) (vI G)) : n = G.length ∧ n ≤ c ∧ c ≤ 9223372036854775807 ∧ ∀ i, i < n → ∃ g, a = some ⟨g, 0, none⟩ ∧ g < w.heap.size ∧ w.cell? ⟨g, i, none⟩ = some (.int .i64 (G.getD i 0)) := by
  obtain ⟨a', c', e, h1, h2, h3, h4⟩ := h.slice
  simp only [Value.slice.injEq] at e
  obtain ⟨rfl, rfl, rfl⟩ := e
  rw [vI_len] at *
  refine ⟨rfl, h1, h2, fun i hi => ?_⟩
  cases a with
  | none => have := congrArg List.length (h3 rfl); rw [vI_len] at this; simp at this; subst this; simp at hi
  | some x =>
    obtain ⟨g, rfl, h5, h6, h7, h8⟩ := h4 x rfl
    refine ⟨g, rfl, h6, ?_⟩
    rw [h7 i hi]
    simp [vI, List.getD_eq_getElem?_getD, hi]
set_option maxHeartbeats 2000000 in
theorem ints_same (G : List Int) (w : World) {b1 b2 : Nat} {xa aa : Option Addr} {xn xc an ac : Nat} (h1 : RowsL.Own w b1 3 (.slice xa xn xc) (vI G)) (h2 : RowsL.Own w b2 3 (.slice aa an ac) (vI G)) :
    Calls Tryd.prog 18 #[.slice xa xn xc, .slice aa an ac] w fun e w' => e = .returned (.bool true) ∧ Below w.heap.size w w' := by
  obtain ⟨e1, x1, x2, hx⟩ := own_cells h1
  obtain ⟨e2, a1, a2, ha⟩ := own_cells h2
  obtain ⟨rfl⟩ : xn = an := by omega
  have HX := Lib.hid hx
  have HA := Lib.hid ha
  have HE := Lib.hid e1
  clear hx ha h1 h2 e1 e2
  go_enter Tryd.func18, Tryd.ntmps18
  go_wp2
  go_loopw [5] (fun jv wr => ∃ j : Nat, jv = .int .i64 j ∧ j ≤ xn ∧ Below w.heap.size w wr) (fun jv _ => xn - (intOf jv).toNat)
  case atStart => exact ⟨0, rfl, Nat.zero_le _, Below.refl _ _⟩
  case round =>
    obtain ⟨j, rfl, hj, hB⟩ := hrel
    by_cases hl : j < xn
    · obtain ⟨g1, rfl, hg1, hc1⟩ := HX.out j hl
      obtain ⟨g2, rfl, hg2, hc2⟩ := HA.out j hl
      have hd1 := (hB.cell (p := ⟨g1, j, none⟩) hg1).trans hc1
      have hd2 := (hB.cell (p := ⟨g2, j, none⟩) hg2).trans hc2
      generalize G.getD j 0 = z at hd1 hd2
      have q0 : (0 : Int) ≤ (j : Int) := by omega
      have q1 : (j : Int) < (xn : Int) := by omega
      have hd1' : wr.drew.cell? ⟨g1, j, none⟩ = some (.int .i64 z) := hd1
      have hd2' : wr.drew.cell? ⟨g2, j, none⟩ = some (.int .i64 z) := hd2
      clear hc1 hc2
      go_wp2_with (fail)
      all_goals (try go_quiet (fail))
      go_wp2_with (fail)
      go_roundw
      case measure => simp [intOf]; omega
      case rel => exact ⟨j + 1, (by go_num), by omega, below_drewN hB _⟩
    · have HB := Lib.hid hB
      clear hB
      go_wp2_with (fail)
      go_ret
      exact ⟨rfl, HB.out⟩
end Go.Proofs.YtcdhjbeeehjpiaaDoor.PoolX
