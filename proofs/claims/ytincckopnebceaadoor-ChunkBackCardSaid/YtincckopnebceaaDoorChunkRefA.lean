/-
  The reference's digits of a number, and match, over this seat's translation.
  Conditions: none but where the bytes lie.
-/
import Derived.Test.YtincckopnebceaaDoorChunkDec2
import Derived.Test.YtincckopnebceaaDoorChunkEnc
import Derived.WalkSpells
import Derived.Deep.QuietTactic
import Derived.BigQuiet
namespace Go.Proofs.YtincckopnebceaaDoor.ChunkR
open Go.RowKit BA SlicesB ChunkD HexC ChunkC ChunkI
set_option linter.unusedVariables false
set_option linter.unusedSimpArgs false

theorem strOf_app (a b : List Int) : strOf a ++ strOf b = strOf (a ++ b) := by
  unfold strOf
  apply ByteArray.ext
  simp
theorem strOf_size (l : List Int) : (strOf l).size = l.length := by simp [strOf, ByteArray.size]
theorem strOf_cells {l : List Int} (h : ∀ z ∈ l, 0 ≤ z ∧ z ≤ 255) : Lib.strCells (strOf l) = BytesL.valB l := by
  simp only [Lib.strCells, strOf, BytesL.valB, List.map_map]
  apply List.map_congr_left
  intro z hz
  have := h z hz
  simp only [Function.comp]
  congr 1
  rw [UInt8.toNat_ofNat']
  omega
theorem hexL_bd (n : Nat) : ∀ z ∈ hexL n, 0 ≤ z ∧ z ≤ 255 := by
  induction n using Nat.strongRecOn with
  | ind n ih =>
    intro z hz
    by_cases h : n < 16
    · rw [hexL_small h] at hz
      obtain rfl := List.mem_singleton.1 hz
      exact dig_bd h
    · rw [hexL_big h] at hz
      rcases List.mem_append.1 hz with hz | hz
      · exact ih (n / 16) (by omega) z hz
      · obtain rfl := List.mem_singleton.1 hz
        exact dig_bd (by omega)
theorem cut16 (k : Nat) (h : k < 16) : (⟨#[48, 49, 50, 51, 52, 53, 54, 55, 56, 57, 97, 98, 99, 100, 101, 102]⟩ : ByteArray).extract k (k + 1) = strOf [dig k] := by
  have h2 : ∀ k : Fin 16, (⟨#[48, 49, 50, 51, 52, 53, 54, 55, 56, 57, 97, 98, 99, 100, 101, 102]⟩ : ByteArray).extract k.val (k.val + 1) = strOf [dig k.val] := by decide +kernel
  exact h2 ⟨k, h⟩
set_option maxRecDepth 100000 in
set_option maxHeartbeats 1000000 in
theorem hex_any (n : Nat) : n ≤ 8000 → ∀ w : World, Calls Tryd.prog 23 #[.int .i64 n] w fun e w' => e = .returned (.string (strOf (hexL n))) ∧ w = w' := by
  induction n using Nat.strongRecOn with
  | ind n ih =>
    intro hn w
    by_cases h : n < 16
    · rw [hexL_small h]
      have h1 : (n : Int) < 16 := by omega
      have h2 := cut16 n h
      go_enter Tryd.func23, Tryd.ntmps23
      go_wp2
      go_ret
      exact ⟨rfl, rfl⟩
    · have h1 : ¬ (n : Int) < 16 := by omega
      rw [hexL_big h, ← strOf_app]
      have hI := ih (n / 16) (by omega) (by omega) w
      have hc : ((n / 16 : Nat) : Int) = (n : Int) / 16 := by omega
      rw [hc] at hI
      have h2 := cut16 (n % 16) (by omega)
      have h3 : (n : Int) % 16 + 1 ≤ 16 := by omega
      have h4 : 0 ≤ (n : Int) % 16 := by omega
      have h5 : 0 ≤ (n : Int) % 16 + 1 := by omega
      have h6 : ¬ 9223372036854775807 < (strOf (hexL (n / 16))).size + (strOf [dig (n % 16)]).size := by
        have := hexL_len (n := n / 16) (by omega)
        rw [strOf_size, strOf_size]; simp; omega
      go_enter Tryd.func23, Tryd.ntmps23
      go_wp2_with (go_at_call 23; (with_reducible refine hI.mono ?_); rintro e w1 ⟨rfl, rfl⟩)
      go_ret
      exact ⟨rfl, rfl⟩
set_option maxRecDepth 100000 in
set_option maxHeartbeats 2000000 in
theorem rmatch_any (a : Option Addr) (cap p : Nat) (b : List Int) (w : World) (hb : BytesAt w (.slice a b.length cap) b) (hp : p ≤ 1000000000) :
    Calls Tryd.prog 25 #[.slice a b.length cap, .int .i64 p, .string ⟨#[13, 10]⟩] w fun e w' => Below w.heap.size w w' ∧
      e = .returned (.tuple #[.int .i64 (mt b [13, 10] p).1, .int .i64 (mt b [13, 10] p).2]) := by
  obtain ⟨a0, c0, e0, hc1, hc2, hnil, _⟩ := hb.open
  simp only [Value.slice.injEq] at e0
  obtain ⟨rfl, _, rfl⟩ := e0
  obtain ⟨R, hR⟩ : ∃ R, mt b [13, 10] p = R := ⟨_, rfl⟩
  rw [hR]
  have HR := Lib.hid hR
  have HBT := Lib.hid hb
  obtain ⟨L, hL⟩ : ∃ L, b.length = L := ⟨_, rfl⟩
  rw [hL] at hc1 ⊢
  have HL := Lib.hid hL
  clear hR hb hL
  go_enter Tryd.func25, Tryd.ntmps25
  go_wp2
  go_loopw [8] (fun iv wr => Below w.heap.size w wr ∧ ((iv = .int .i64 0 ∧ Hid (mt b [13, 10] p = R)) ∨ (iv = .int .i64 1 ∧ Hid (mt b [10] (p + 1) = R)) ∨ (iv = .int .i64 2 ∧ Hid (mt b [] (p + 2) = R)))) (fun iv _ => 2 - (intOf iv).toNat)
  case atStart => exact ⟨Below.refl _ _, .inl ⟨rfl, HR.out⟩⟩
  case round =>
    obtain ⟨hB, hrel⟩ := hrel
    have HB := Lib.hid hB
    have HBw := Lib.hid (HBT.out.below hB)
    clear hB
    rcases hrel with ⟨rfl, HK⟩ | ⟨rfl, HK⟩ | ⟨rfl, HK⟩
    · have h := HK.out
      by_cases h1 : L ≤ p
      · rw [mt_short (by rw [HL.out]; exact h1)] at h
        have HH := Lib.hid h
        have h1' : ((L : Nat) : Int) ≤ (p : Int) := by omega
        clear h h1
        go_wp2
        go_ret2
        exact ⟨HB.out, by rw [← HH.out]; rfl⟩
      · obtain ⟨a1, c1, e1, _, _, _, hel⟩ := HBw.out.open
        simp only [Value.slice.injEq] at e1
        obtain ⟨rfl, _, rfl⟩ := e1
        obtain ⟨bb, off, rfl, hbb, hcell⟩ := hel (p) (by rw [HL.out]; omega)
        obtain ⟨z, hzk⟩ : ∃ z, b.getD (p) 0 = z := ⟨_, rfl⟩
        rw [hzk] at hcell
        have h1' : (p : Int) < (L : Int) := by omega
        have h2' : (0 : Int) ≤ (p : Int) := by omega
        by_cases h3 : z = 13
        · subst h3
          rw [mt_step (by rw [HL.out]; omega) hzk] at h
          have HH := Lib.hid h
          clear h h1 hel hzk
          go_wp2
          go_quiet (fail)
          go_wp2
          case roundEnd => exact ⟨⟨below_drewN HB.out _, .inr (.inl ⟨rfl, HH.out⟩)⟩, by simp [intOf]⟩
        · rw [mt_bad (by rw [HL.out]; omega) (by rw [hzk]; exact h3)] at h
          have HH := Lib.hid h
          clear h h1 hel hzk
          go_wp2
          go_quiet (fail)
          go_wp2
          case roundEnd =>
            rename_i hx
            exact absurd (by simpa using (show (z != 13) = false from hx)) h3
          go_ret2
          exact ⟨below_drewN HB.out _, by rw [← HH.out]; rfl⟩
    · have h := HK.out
      by_cases h1 : L ≤ p + 1
      · rw [mt_short (by rw [HL.out]; exact h1)] at h
        have HH := Lib.hid h
        have h1' : ((L : Nat) : Int) ≤ (p : Int) + 1 := by omega
        clear h h1
        go_wp2
        go_ret2
        exact ⟨HB.out, by rw [← HH.out]; rfl⟩
      · obtain ⟨a1, c1, e1, _, _, _, hel⟩ := HBw.out.open
        simp only [Value.slice.injEq] at e1
        obtain ⟨rfl, _, rfl⟩ := e1
        obtain ⟨bb, off, rfl, hbb, hcell⟩ := hel (p + 1) (by rw [HL.out]; omega)
        obtain ⟨z, hzk⟩ : ∃ z, b.getD (p + 1) 0 = z := ⟨_, rfl⟩
        rw [hzk] at hcell
        have h1' : (p : Int) + 1 < (L : Int) := by omega
        have h2' : (0 : Int) ≤ (p : Int) + 1 := by omega
        by_cases h3 : z = 10
        · subst h3
          rw [mt_step (by rw [HL.out]; omega) hzk] at h
          have HH := Lib.hid h
          clear h h1 hel hzk
          go_wp2
          go_quiet (fail)
          go_wp2
          case roundEnd => exact ⟨⟨below_drewN HB.out _, .inr (.inr ⟨rfl, HH.out⟩)⟩, by simp [intOf]⟩
        · rw [mt_bad (by rw [HL.out]; omega) (by rw [hzk]; exact h3)] at h
          have HH := Lib.hid h
          clear h h1 hel hzk
          go_wp2
          go_quiet (fail)
          go_wp2
          case roundEnd =>
            rename_i hx
            exact absurd (by simpa using (show (z != 10) = false from hx)) h3
          go_ret2
          exact ⟨below_drewN HB.out _, by rw [← HH.out]; rfl⟩
    · have HH := Lib.hid HK.out
      go_wp2
      go_ret2
      exact ⟨HB.out, by rw [← HH.out]; rfl⟩
end Go.Proofs.YtincckopnebceaaDoor.ChunkR
