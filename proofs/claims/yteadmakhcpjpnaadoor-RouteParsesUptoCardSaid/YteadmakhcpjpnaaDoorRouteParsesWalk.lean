/-
  RouteParses answers true.
  Conditions: the text's length; the cells of bytealg.MaxLen and of errorType.
-/
import Derived.Test.YteadmakhcpjpnaaDoorParseRef
import Derived.Test.YteadmakhcpjpnaaDoorSameR
import Derived.Test.YteadmakhcpjpnaaDoorTold
namespace Go.Proofs.YteadmakhcpjpnaaDoor.WalkRouteParses
open Go.RowKit RowsK RouteC ToldC SameC
set_option linter.unusedVariables false
set_option linter.unusedSimpArgs false

theorem err_is (k : Int) : ErrIs (errV k) k := by
  unfold errV
  split
  · rename_i h; subst h; exact .nil
  · exact .err k
set_option maxRecDepth 100000 in
set_option maxHeartbeats 16000000 in
theorem walk (text : ByteArray) (w : World) (ht : text.size < 4294967281) (hmx : ∃ m, w.cell? ⟨1, 0, none⟩ = some (.int .i64 m)) (hg : w.cell? ⟨0, 0, none⟩ = some (.iface 98 (.agg #[.pointer (some ⟨4, 24, none⟩)]))) :
    Calls Tryd.prog 4 #[.string text] w fun e w' => e = .returned (.bool true) ∧ Below w.heap.size w w' := by
  obtain ⟨m, hm⟩ := hmx
  have HR := Lib.hid (rparse_any text ht w)
  have HP := Lib.hid (fun (W : World) (hB : Below w.heap.size w W) => parse_any text ht W m ((hB.cell (p := ⟨1, 0, none⟩) (block_lt_of_cell hm)).trans hm))
  have HGc : Hid (∀ W', Below w.heap.size w W' → W'.cell? ⟨0, 0, none⟩ = some (.iface 98 (.agg #[.pointer (some ⟨4, 24, none⟩)]))) := fun W' hB => (hB.cell (p := ⟨0, 0, none⟩) (block_lt_of_cell hg)).trans hg
  clear ht hm hg
  go_enter Tryd.func4, Tryd.ntmps4
  go_wp2_with (first
    | (go_at_call 9; (with_reducible refine HR.out.mono ?_); rintro e w1 ⟨v1, l1, k1, e1, rfl, hp1, hat1, hB1⟩; have HP1 := Lib.hid hp1; have HA1 := Lib.hid hat1; have HB1 := Lib.hid hB1; clear hp1 hat1 hB1)
    | (go_at_call 5; (with_reducible refine (HP.out _ HB1.out).mono ?_); rintro e w2 ⟨v2, l2, k2, e2, rfl, hp2, hat2, hB2⟩; have hq := hp2.trans HP1.out.symm; simp only [Prod.mk.injEq] at hq; obtain ⟨rfl, rfl, rfl⟩ := hq; have HA2 := Lib.hid hat2; have HB2 := Lib.hid (HB1.out.trans (hB2.mono HB1.out.size)); have HA12 := Lib.hid (HA1.out.old hB2); clear hp2 hat2 hB2)
    | (go_at_call 10; (with_reducible refine (error_any (err_is _) _ _ (HGc.out _ HB2.out)).mono ?_); rintro e w3 ⟨rfl, hB3⟩; have HA3 := Lib.hid (HA2.out.old hB3); have HA13 := Lib.hid (HA12.out.old hB3); have HB3 := Lib.hid (HB2.out.trans (hB3.mono HB2.out.size)); clear hB3)
    | (go_at_call 7; (with_reducible refine (sameR_any _ _ _ _ HA3.out HA13.out).mono ?_); rintro e w4 ⟨rfl, n4, rfl⟩)
    | fail)
  go_ret
  exact ⟨by simp, below_drewN HB3.out _⟩
end Go.Proofs.YteadmakhcpjpnaaDoor.WalkRouteParses
