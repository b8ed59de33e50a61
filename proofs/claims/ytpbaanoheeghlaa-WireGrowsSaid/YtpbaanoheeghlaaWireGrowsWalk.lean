/-
  The walk of the law WireGrows: for every a, b and bits it returns true and writes nothing that was there.
  Conditions: none.
-/
import Derived.Test.YtpbaanoheeghlaaArgs
import Derived.Test.YtpbaanoheeghlaaWire
import Derived.Lib.Hide
namespace Go.Proofs.Ytpbaanoheeghlaa.WalkWireGrows
open Go.RowKit
set_option linter.unusedVariables false

set_option maxRecDepth 100000 in
set_option maxHeartbeats 4000000 in
theorem walk (a b bits : Int) (w : World) (ha : -9223372036854775808 ≤ a ∧ a ≤ 9223372036854775807) (hb : -9223372036854775808 ≤ b ∧ b ≤ 9223372036854775807) (hbits : -9223372036854775808 ≤ bits ∧ bits ≤ 9223372036854775807) :
    Calls Try.prog 4 #[.int .i64 a, .int .i64 b, .int .i64 bits] w fun e w' => e = .returned (.bool true) ∧ Below w.heap.size w w' := by
  have z : ∀ bits : Int, 1 ≤ bits → bits ≤ 8 → (0 : Int) % 2 ^ bits.toNat = 0 := fun _ _ _ => by simp
  have Z := Lib.hid z
  clear z
  have hm1 : 1 ≤ bits → 0 ≤ a → a ≤ b → (WireC.putL a bits 0).length ≤ (WireC.putL b bits 0).length := fun h1 h0 h => WireC.putL_mono a b bits h1 h0 h
  have hm2 : 1 ≤ bits → 0 ≤ b → b ≤ a → (WireC.putL b bits 0).length ≤ (WireC.putL a bits 0).length := fun h1 h0 h => WireC.putL_mono b a bits h1 h0 h
  have hm3 : 1 ≤ bits → 0 ≤ a → (WireC.putL a (bits + 1) 0).length ≤ (WireC.putL a bits 0).length := fun h1 h0 => WireC.putL_more a bits h1 h0
  go_enter Try.func4, Try.ntmps4
  go_wp2_with fail
  refine (WireC.put_small 10 5 0 _ (by omega) (by omega) (by omega) (by decide) (by omega) (by omega) (by decide)).mono ?_
  rintro e w1 ⟨rfl, rfl⟩
  go_wp2_with fail
  refine (WireC.put_any a bits 0 _ ha (by omega) (by omega) (Z.out bits)).mono ?_
  rintro e w2 (⟨g1, g2, g3, g4, ax, cx, rfl, hox, hBx⟩ | ⟨hbad, rfl, rfl⟩)
  · go_wp2_with fail
    refine (WireC.put_any b bits 0 _ hb (by omega) (by omega) (Z.out bits)).mono ?_
    rintro e w3 (⟨g5, g6, g7, g8, ay, cy, rfl, hoy, hBy⟩ | ⟨hbad, rfl, rfl⟩)
    · have m1 := hm1 g1 g3
      have m2 := hm2 g1 g7
      have m3 := hm3 g1 g3
      have n1 := WireC.putL_len a bits 0
      have n2 := WireC.putL_len b bits 0
      have n3 := WireC.putL_len a (bits + 1) 0
      clear hm1 hm2 hm3
      have hB3 := ((Below.refl w.heap.size w).alloc (Nat.le_refl _) (.cells #[.int .u8 (0 + 10)] 5)).trans ((hBx.mono (by simp)).trans (hBy.mono (by have := hBx.size; simp at this; omega)))
      have hsz := hB3.size
      have HB3 := Lib.hid hB3
      clear hB3 hBx hBy hox hoy
      have fin : ∀ w4, Below w3.heap.size w3 w4 → Below w.heap.size w w4 := fun w4 h => HB3.out.trans (h.mono hsz)
      have FIN := Lib.hid fin
      clear fin
      have P := Lib.hid (WireC.put_any a (bits + 1) 0 w3 ha (by omega) (by omega) (Z.out (bits + 1)))
      generalize WireC.putL a bits 0 = la at *
      generalize WireC.putL b bits 0 = lb at *
      generalize WireC.putL a (bits + 1) 0 = lc at *
      by_cases c1 : a ≤ b
      · have m1 := m1 c1
        by_cases c2 : b ≤ a
        · have m2 := m2 c2
          go_wp2_with fail
          refine P.out.mono ?_
          rintro e w4 (⟨g9, g10, g11, g12, az, cz, rfl, hoz, hBz⟩ | ⟨hbad, rfl, rfl⟩)
          · go_wp2
            go_ret
            exact ⟨by simp, FIN.out _ hBz⟩
          · go_wp2
            go_ret
            exact ⟨rfl, FIN.out _ (Below.refl _ _)⟩
        · go_wp2_with fail
          refine P.out.mono ?_
          rintro e w4 (⟨g9, g10, g11, g12, az, cz, rfl, hoz, hBz⟩ | ⟨hbad, rfl, rfl⟩)
          · go_wp2
            go_ret
            exact ⟨by simp, FIN.out _ hBz⟩
          · go_wp2
            go_ret
            exact ⟨rfl, FIN.out _ (Below.refl _ _)⟩
      · have m2 := m2 (by omega)
        go_wp2_with fail
        refine P.out.mono ?_
        rintro e w4 (⟨g9, g10, g11, g12, az, cz, rfl, hoz, hBz⟩ | ⟨hbad, rfl, rfl⟩)
        · go_wp2
          go_ret
          exact ⟨by simp, FIN.out _ hBz⟩
        · go_wp2
          go_ret
          exact ⟨rfl, FIN.out _ (Below.refl _ _)⟩
    · go_wp2
      go_ret
      exact ⟨rfl, (((Below.refl w.heap.size w).alloc (Nat.le_refl _) _)).trans (hBx.mono (by simp))⟩
  · go_wp2_with fail
    refine (WireC.put_any b bits 0 _ hb (by omega) (by omega) (Z.out bits)).mono ?_
    rintro e w3 (⟨g5, g6, g7, g8, ay, cy, rfl, hoy, hBy⟩ | ⟨hbad, rfl, rfl⟩)
    · go_wp2
      go_ret
      exact ⟨rfl, (((Below.refl w.heap.size w).alloc (Nat.le_refl _) _)).trans (hBy.mono (by simp))⟩
    · go_wp2
      go_ret
      exact ⟨rfl, (Below.refl _ _).alloc (Nat.le_refl _) _⟩
end Go.Proofs.Ytpbaanoheeghlaa.WalkWireGrows
