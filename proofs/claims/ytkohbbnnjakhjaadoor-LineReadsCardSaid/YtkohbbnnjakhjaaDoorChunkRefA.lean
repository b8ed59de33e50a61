/-
  The reference's digits of a number, and match, over this seat's translation.
  Conditions: none but where the bytes lie.
-/
import Derived.Test.YtkohbbnnjakhjaaDoorChunkDec2
import Derived.WalkSpells
import Derived.Deep.QuietTactic
import Derived.BigQuiet
namespace Go.Proofs.YtkohbbnnjakhjaaDoor.ChunkR
open Go.RowKit BA SlicesB ChunkD
set_option linter.unusedVariables false
set_option linter.unusedSimpArgs false

set_option maxRecDepth 100000 in
set_option maxHeartbeats 2000000 in
theorem rmatch_any (a : Option Addr) (cap p : Nat) (b : List Int) (w : World) (hb : BytesAt w (.slice a b.length cap) b) (hp : p ≤ 1000000000) :
    Calls Tryd.prog 37 #[.slice a b.length cap, .int .i64 p, .string ⟨#[13, 10]⟩] w fun e w' => Below w.heap.size w w' ∧
      e = .returned (.tuple #[.int .i64 (mt b [13, 10] p).1, .int .i64 (mt b [13, 10] p).2]) := by
  obtain ⟨a0, c0, e0, hc1, hc2, hnil, _⟩ := hb.open
  simp only [Value.slice.injEq] at e0
  obtain ⟨rfl, _, rfl⟩ := e0
  obtain ⟨R, hR⟩ : ∃ R, mt b [13, 10] p = R := ⟨_, rfl⟩
  rw [hR]
  have HR := Lib.hid hR
  have HBT := Lib.hid hb
  obtain ⟨L, hL⟩ : ∃ L, b.length = L := ⟨_, rfl⟩
  rw [hL] at hc1 ⊢
  have HL := Lib.hid hL
  clear hR hb hL
  go_enter Tryd.func37, Tryd.ntmps37
  go_wp2
  go_loopw [8] (fun iv wr => Below w.heap.size w wr ∧ ((iv = .int .i64 0 ∧ Hid (mt b [13, 10] p = R)) ∨ (iv = .int .i64 1 ∧ Hid (mt b [10] (p + 1) = R)) ∨ (iv = .int .i64 2 ∧ Hid (mt b [] (p + 2) = R)))) (fun iv _ => 2 - (intOf iv).toNat)
  case atStart => exact ⟨Below.refl _ _, .inl ⟨rfl, HR.out⟩⟩
  case round =>
    obtain ⟨hB, hrel⟩ := hrel
    have HB := Lib.hid hB
    have HBw := Lib.hid (HBT.out.below hB)
    clear hB
    rcases hrel with ⟨rfl, HK⟩ | ⟨rfl, HK⟩ | ⟨rfl, HK⟩
    · have h := HK.out
      by_cases h1 : L ≤ p
      · rw [mt_short (by rw [HL.out]; exact h1)] at h
        have HH := Lib.hid h
        have h1' : ((L : Nat) : Int) ≤ (p : Int) := by omega
        clear h h1
        go_wp2
        go_ret2
        exact ⟨HB.out, by rw [← HH.out]; rfl⟩
      · obtain ⟨a1, c1, e1, _, _, _, hel⟩ := HBw.out.open
        simp only [Value.slice.injEq] at e1
        obtain ⟨rfl, _, rfl⟩ := e1
        obtain ⟨bb, off, rfl, hbb, hcell⟩ := hel (p) (by rw [HL.out]; omega)
        obtain ⟨z, hzk⟩ : ∃ z, b.getD (p) 0 = z := ⟨_, rfl⟩
        rw [hzk] at hcell
        have h1' : (p : Int) < (L : Int) := by omega
        have h2' : (0 : Int) ≤ (p : Int) := by omega
        by_cases h3 : z = 13
        · subst h3
          rw [mt_step (by rw [HL.out]; omega) hzk] at h
          have HH := Lib.hid h
          clear h h1 hel hzk
          go_wp2
          go_quiet (fail)
          go_wp2
          case roundEnd => exact ⟨⟨below_drewN HB.out _, .inr (.inl ⟨rfl, HH.out⟩)⟩, by simp [intOf]⟩
        · rw [mt_bad (by rw [HL.out]; omega) (by rw [hzk]; exact h3)] at h
          have HH := Lib.hid h
          clear h h1 hel hzk
          go_wp2
          go_quiet (fail)
          go_wp2
          case roundEnd =>
            rename_i hx
            exact absurd (by simpa using (show (z != 13) = false from hx)) h3
          go_ret2
          exact ⟨below_drewN HB.out _, by rw [← HH.out]; rfl⟩
    · have h := HK.out
      by_cases h1 : L ≤ p + 1
      · rw [mt_short (by rw [HL.out]; exact h1)] at h
        have HH := Lib.hid h
        have h1' : ((L : Nat) : Int) ≤ (p : Int) + 1 := by omega
        clear h h1
        go_wp2
        go_ret2
        exact ⟨HB.out, by rw [← HH.out]; rfl⟩
      · obtain ⟨a1, c1, e1, _, _, _, hel⟩ := HBw.out.open
        simp only [Value.slice.injEq] at e1
        obtain ⟨rfl, _, rfl⟩ := e1
        obtain ⟨bb, off, rfl, hbb, hcell⟩ := hel (p + 1) (by rw [HL.out]; omega)
        obtain ⟨z, hzk⟩ : ∃ z, b.getD (p + 1) 0 = z := ⟨_, rfl⟩
        rw [hzk] at hcell
        have h1' : (p : Int) + 1 < (L : Int) := by omega
        have h2' : (0 : Int) ≤ (p : Int) + 1 := by omega
        by_cases h3 : z = 10
        · subst h3
          rw [mt_step (by rw [HL.out]; omega) hzk] at h
          have HH := Lib.hid h
          clear h h1 hel hzk
          go_wp2
          go_quiet (fail)
          go_wp2
          case roundEnd => exact ⟨⟨below_drewN HB.out _, .inr (.inr ⟨rfl, HH.out⟩)⟩, by simp [intOf]⟩
        · rw [mt_bad (by rw [HL.out]; omega) (by rw [hzk]; exact h3)] at h
          have HH := Lib.hid h
          clear h h1 hel hzk
          go_wp2
          go_quiet (fail)
          go_wp2
          case roundEnd =>
            rename_i hx
            exact absurd (by simpa using (show (z != 10) = false from hx)) h3
          go_ret2
          exact ⟨below_drewN HB.out _, by rw [← HH.out]; rfl⟩
    · have HH := Lib.hid HK.out
      go_wp2
      go_ret2
      exact ⟨HB.out, by rw [← HH.out]; rfl⟩
end Go.Proofs.YtkohbbnnjakhjaaDoor.ChunkR
