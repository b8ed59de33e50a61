/-
  The walk of the law StreamSteps: for every state, kind and end it returns true and writes nothing that was there.
  Conditions: errors.errorType starts as the program's text lays it.
-/
import Derived.Test.YtpbaanoheeghlaaDoorArgs
import Derived.Test.YtpbaanoheeghlaaDoorStreamRef
import Derived.Test.YtpbaanoheeghlaaDoorTold
import Derived.Lib.Hide
namespace Go.Proofs.YtpbaanoheeghlaaDoor.WalkStreamSteps
open Go.RowKit StreamC
set_option linter.unusedVariables false

set_option maxRecDepth 100000 in
set_option maxHeartbeats 4000000 in
theorem walk (s k : Int) (en : Bool) (w : World) (w0 : Args.I64 s) (w1 : Args.I64 k) (hg : w.cell? ⟨0, 0, none⟩ = some (.iface 64 (.agg #[.pointer (some ⟨1, 25, none⟩)]))) :
    Calls Tryd.prog 4 #[.int .i64 s, .int .i64 k, .bool en] w fun e w' => e = .returned (.bool true) ∧ Below w.heap.size w w' := by
  clear w0 w1
  have P1 := Lib.hid (ToldC.error_any ToldC.ErrIs.nil 0 w hg)
  have P2 := Lib.hid (ToldC.error_any (ToldC.ErrIs.err 6) 6 w hg)
  clear hg
  have e1 : sayB s k en = true → sayE s k en = 0 := fun h => by simp [sayE, h]
  have e2 : sayB s k en = false → sayE s k en = 6 := fun h => by simp [sayE, h]
  have E1 := Lib.hid e1
  have E2 := Lib.hid e2
  clear e1 e2
  go_enter Tryd.func4, Tryd.ntmps4
  go_wp2_with (first | (go_at_call 12; refine (hear_any _ _ _ _).mono ?_; rintro e w' ⟨rfl, rfl⟩) | (go_at_call 11; refine (shear_any _ _ _ _).mono ?_; rintro e w' ⟨rfl, rfl⟩) | (go_at_call 13; refine (ssay_any _ _ _ _).mono ?_; rintro e w' ⟨rfl, rfl⟩))
  refine (say_any s k en _).mono ?_
  rintro e w' (⟨hq, rfl, rfl⟩ | ⟨hq, hz, rfl, rfl⟩)
  · rw [E1.out hq]
    clear hq
    go_wp2_with fail
    refine P1.out.mono ?_
    rintro e w' ⟨rfl, hB⟩
    go_wp2
    go_ret
    exact ⟨by simp, hB⟩
  · rw [E2.out hq, hz]
    clear hq hz
    go_wp2_with fail
    refine P2.out.mono ?_
    rintro e w' ⟨rfl, hB⟩
    go_wp2
    go_ret
    exact ⟨by simp, hB⟩
end Go.Proofs.YtpbaanoheeghlaaDoor.WalkStreamSteps
