/-
  The law's own word.
  Conditions: the number.
-/
import Derived.Test.YtegngpingfjedaaConnSt
import Derived.Test.YtegngpingfjedaaWireBig
namespace Go.Proofs.Ytegngpingfjedaa.ConnS
open Go.RowKit ModL ConnR BA WireBig SlicesB FrameC
set_option linter.unusedVariables false
set_option linter.unusedSimpArgs false

theorem lword_any (n : Int) (h0 : 0 ≤ n) (h1 : n ≤ 2147483647) (w : World) :
    Calls Try.prog 10 #[.int .i64 n] w fun e w' => ∃ a c, e = .returned (.slice a 4 c) ∧ BytesL.Own w' w.heap.size (.slice a 4 c) (bigL n 4) ∧ Below w.heap.size w w' := by
  have HB := Lib.hid (big_any n 4 (by omega) w)
  have HM : Hid (n ≤ most 4) := by show n ≤ most 4; rw [most4]; exact h1
  have H0 := Lib.hid h0
  clear h0 h1
  go_enter Try.func10, Try.ntmps10
  go_wp2_with (first
    | (go_at_call 16; refine HB.out.mono ?_; rintro e w1 (⟨hbad, -, -⟩ | ⟨-, b, rfl, rfl, hO, hB1, -⟩); (exact absurd hbad (by have := HM.out; have := H0.out; omega)); simp only [show (4 : Int).toNat = 4 from rfl] at hO ⊢; have HO := Lib.hid hO; have HB1 := Lib.hid hB1; clear hO hB1)
    | fail)
  go_ret
  exact ⟨_, 4, rfl, HO.out, HB1.out⟩
end Go.Proofs.Ytegngpingfjedaa.ConnS
