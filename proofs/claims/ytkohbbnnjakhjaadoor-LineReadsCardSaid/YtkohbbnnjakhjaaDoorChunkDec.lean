/-
  chunk.number, chunk.Match and chunk.Decode over this seat's translation.
  Conditions: none but where the bytes lie.
-/
import Derived.Test.YtkohbbnnjakhjaaDoorChunkSpec
import Derived.Test.YtkohbbnnjakhjaaDoorSlicesB
import Derived.Test.YtkohbbnnjakhjaaDoorShelf
import Derived.Deep.QuietTactic
import Derived.BigQuiet
namespace Go.Proofs.YtkohbbnnjakhjaaDoor.ChunkD
open Go.RowKit BA SlicesB
set_option linter.unusedVariables false
set_option linter.unusedSimpArgs false

def hex16 : ByteArray := ⟨#[48, 49, 50, 51, 52, 53, 54, 55, 56, 57, 97, 98, 99, 100, 101, 102]⟩
theorem index_dg (z : Int) (h0 : 0 ≤ z) (h1 : z ≤ 255) : Lib.indexByte hex16.data.toList z.toNat.toUInt8 = dg z := by
  have h : ∀ k : Fin 256, Lib.indexByte hex16.data.toList (k.val).toUInt8 = dg (k.val : Int) := by decide +kernel
  have := h ⟨z.toNat, by omega⟩
  simp only at this
  rw [this]
  congr 1
  omega
set_option maxRecDepth 100000 in
set_option maxHeartbeats 2000000 in
theorem number_any (a : Option Addr) (cap st most : Nat) (b : List Int) (w : World) (hb : BytesAt w (.slice a b.length cap) b) (hz : ∀ z ∈ b, 0 ≤ z ∧ z ≤ 255) (hst : st ≤ 1000000 ∧ st ≤ b.length) (hm : most ≤ 8000) :
    Calls Tryd.prog 49 #[.slice a b.length cap, .int .i64 st, .int .i64 most] w fun e w' => w = w' ∧
      (((num b st most (b.length + 1) st 0).2.2 = 0 ∧ e = .returned (.tuple #[.int .i64 (num b st most (b.length + 1) st 0).1, .int .i64 (num b st most (b.length + 1) st 0).2.1, .nilIface])) ∨
       ((num b st most (b.length + 1) st 0).2.2 ≠ 0 ∧ e = .returned (.tuple #[.int .i64 0, .int .i64 0, .iface 63 (.int .i64 (num b st most (b.length + 1) st 0).2.2)]))) := by
  obtain ⟨a0, c0, e0, hc1, hc2, hnil, hel⟩ := hb.open
  simp only [Value.slice.injEq] at e0
  obtain ⟨rfl, _, rfl⟩ := e0
  obtain ⟨R, hR⟩ : ∃ R, num b st most (b.length + 1) st 0 = R := ⟨_, rfl⟩
  rw [hR]
  have HR := Lib.hid hR
  have HEL := Lib.hid hel
  have HZ := Lib.hid hz
  obtain ⟨L, hL⟩ : ∃ L, b.length = L := ⟨_, rfl⟩
  rw [hL] at hc1 hst ⊢
  have HL := Lib.hid hL
  clear hR hel hz hb hL
  go_enter Tryd.func49, Tryd.ntmps49
  go_wp2
  go_loop [6, 9] (fun nv iv => ∃ k n f : Nat, iv = .int .i64 k ∧ nv = .int .i64 n ∧ st ≤ k ∧ k ≤ L ∧ Hid (num b st most f k n = R ∧ b.length < k + f ∧ Few st k n) ∧ n ≤ most) (fun _ iv => L + 1 - (intOf iv).toNat)
  case atStart => exact ⟨st, 0, b.length + 1, rfl, rfl, Nat.le_refl _, by omega, ⟨HR.out, by omega, .inl ⟨rfl, rfl⟩⟩, Nat.zero_le _⟩
  case round =>
    obtain ⟨k, n, f, rfl, rfl, hk, hkL, HK, hn⟩ := hrel
    have hkb : k ≤ st + 4 := by have h := HK.out.2.2; unfold Few at h; omega
    obtain ⟨f, rfl⟩ : ∃ f', f = f' + 1 := ⟨f - 1, by have := HK.out.2.1; have := HL.out; omega⟩
    by_cases h1 : L ≤ k
    · have h1' : ((L : Nat) : Int) ≤ (k : Int) := by omega
      go_wp2
      go_ret3
      refine ⟨rfl, .inr ?_⟩
      have h := HK.out.1
      rw [num_short (by rw [HL.out]; exact h1)] at h
      rw [← h]
      exact ⟨by decide, rfl⟩
    · have h1' : (k : Int) < (L : Int) := by omega
      obtain ⟨bb, off, rfl, hbb, hcell⟩ := HEL.out k (by rw [HL.out]; omega)
      have hzz := getD_bd HZ.out k
      obtain ⟨z, hzk⟩ : ∃ z, b.getD k 0 = z := ⟨_, rfl⟩
      rw [hzk] at hcell hzz
      have hix := index_dg z hzz.1 hzz.2
      have hd1 := dg_ge z
      have hd2 := dg_le z
      have hI : Calls Tryd.prog 40 #[.string hex16, .int .u8 z] w fun e w' => e = .returned (.int .i64 (dg z)) ∧ w' = w := by rw [← hix]; exact Tryd.strings_IndexByte hex16 z w
      clear hix
      obtain ⟨d, hd⟩ : ∃ d, dg z = d := ⟨_, rfl⟩
      rw [hd] at hI hd1 hd2
      have HD := Lib.hid hd
      have HZK := Lib.hid hzk
      clear hd hzk hzz
      have HBK : k < b.length := by rw [HL.out]; omega
      have HB2 := Lib.hid HBK
      clear HBK
      by_cases h2 : d < 0
      · by_cases h3 : k = st
        · subst h3
          have h3' : ¬ (k : Int) < (k : Int) := by omega
          go_wp2_with (go_at_call 40; refine hI.mono ?_; rintro e w1 ⟨rfl, rfl⟩)
          go_ret3
          refine ⟨rfl, .inr ?_⟩
          have h := HK.out.1
          rw [num_syn1 HB2.out (by rw [HZK.out, HD.out]; exact h2) rfl] at h
          rw [← h]
          exact ⟨by decide, rfl⟩
        · have h3' : (st : Int) < (k : Int) := by omega
          go_wp2_with (go_at_call 40; refine hI.mono ?_; rintro e w1 ⟨rfl, rfl⟩)
          go_ret3
          refine ⟨rfl, .inl ?_⟩
          have h := HK.out.1
          rw [num_end HB2.out (by rw [HZK.out, HD.out]; exact h2) h3] at h
          rw [← h]
          exact ⟨rfl, rfl⟩
      · obtain ⟨dn, rfl⟩ : ∃ dn : Nat, d = dn := ⟨d.toNat, by omega⟩
        have e1 : dg (b.getD k 0) = dn := by rw [HZK.out, HD.out]
        by_cases h3 : k = st + 1 ∧ n = 0
        · obtain ⟨rfl, rfl⟩ := h3
          have h := HK.out.1
          rw [num_syn2 HB2.out (by rw [e1]; omega) ⟨rfl, rfl⟩] at h
          have HH := Lib.hid h
          clear h e1
          go_wp2_with (go_at_call 40; refine hI.mono ?_; rintro e w1 ⟨rfl, rfl⟩)
          go_ret3
          refine ⟨rfl, .inr ?_⟩
          rw [← HH.out]
          exact ⟨by decide, rfl⟩
        · have HN : Hid (¬ (k = st + 1 ∧ n = 0)) := h3
          have hcase : ¬ ((k : Int) = (st : Int) + 1) ∨ ((k : Int) = (st : Int) + 1 ∧ ¬ ((n : Int) = 0)) := by omega
          have h4 : ¬ (dn : Int) < 0 := by omega
          clear h3
          by_cases h5 : most < 16 * n + dn
          · have h5' : (most : Int) < 16 * (n : Int) + (dn : Int) := by omega
            have h := HK.out.1
            rw [num_full HB2.out (by rw [e1]; omega) HN.out (by rw [e1, Int.toNat_natCast]; exact h5)] at h
            have HH := Lib.hid h
            clear h e1
            rcases hcase with hq | ⟨hq, hn0⟩
            · go_wp2_with (go_at_call 40; refine hI.mono ?_; rintro e w1 ⟨rfl, rfl⟩)
              go_ret3
              refine ⟨rfl, .inr ?_⟩
              rw [← HH.out]
              exact ⟨by decide, rfl⟩
            · obtain rfl : k = st + 1 := by omega
              go_wp2_with (go_at_call 40; refine hI.mono ?_; rintro e w1 ⟨rfl, rfl⟩)
              go_ret3
              refine ⟨rfl, .inr ?_⟩
              rw [← HH.out]
              exact ⟨by decide, rfl⟩
          · have h5' : ¬ (most : Int) < 16 * (n : Int) + (dn : Int) := by omega
            have h := HK.out.1
            rw [num_step HB2.out (by rw [e1]; omega) HN.out (by rw [e1, Int.toNat_natCast]; exact h5)] at h
            rw [e1, Int.toNat_natCast] at h
            have HH := Lib.hid h
            clear h e1
            rcases hcase with hq | ⟨hq, hn0⟩
            · go_wp2_with (go_at_call 40; refine hI.mono ?_; rintro e w1 ⟨rfl, rfl⟩)
              go_round
              case rel => exact ⟨k + 1, 16 * n + dn, f, by go_num, by go_num, by omega, by omega, ⟨HH.out, by have := HK.out.2.1; omega, HK.out.2.2.step hm HN.out (by omega)⟩, by omega⟩
              case measure => simp [intOf]; omega
            · obtain rfl : k = st + 1 := by omega
              have hn1 : n ≠ 0 := by omega
              have HN1 := Lib.hid hn1
              clear hn1
              go_wp2_with (go_at_call 40; refine hI.mono ?_; rintro e w1 ⟨rfl, rfl⟩)
              go_round
              case rel => exact ⟨st + 1 + 1, 16 * n + dn, f, by go_num, by go_num, by omega, by omega, ⟨HH.out, by have := HK.out.2.1; omega, HK.out.2.2.step hm (fun q => HN1.out q.2) (by omega)⟩, by omega⟩
              case measure => simp [intOf]; omega
theorem below_drewN {B : Nat} {w w' : World} (h : Below B w w') (n : Nat) : Below B w (w'.drewN n) := ⟨h.os, h.tape, h.output, h.size, h.block⟩
set_option maxRecDepth 100000 in
set_option maxHeartbeats 2000000 in
theorem match_any (a : Option Addr) (cap p : Nat) (b : List Int) (w : World) (hb : BytesAt w (.slice a b.length cap) b) (hz : ∀ z ∈ b, 0 ≤ z ∧ z ≤ 255) (hp : p ≤ 1000000000) :
    Calls Tryd.prog 41 #[.slice a b.length cap, .int .i64 p, .string ⟨#[13, 10]⟩] w fun e w' => Below w.heap.size w w' ∧
      (((mt b [13, 10] p).2 = 0 ∧ e = .returned (.tuple #[.int .i64 (mt b [13, 10] p).1, .nilIface])) ∨
       ((mt b [13, 10] p).2 ≠ 0 ∧ e = .returned (.tuple #[.int .i64 0, .iface 63 (.int .i64 (mt b [13, 10] p).2)]))) := by
  obtain ⟨a0, c0, e0, hc1, hc2, hnil, _⟩ := hb.open
  simp only [Value.slice.injEq] at e0
  obtain ⟨rfl, _, rfl⟩ := e0
  obtain ⟨R, hR⟩ : ∃ R, mt b [13, 10] p = R := ⟨_, rfl⟩
  rw [hR]
  have HR := Lib.hid hR
  have HBT := Lib.hid hb
  have HZ := Lib.hid hz
  obtain ⟨L, hL⟩ : ∃ L, b.length = L := ⟨_, rfl⟩
  rw [hL] at hc1 ⊢
  have HL := Lib.hid hL
  clear hR hz hb hL
  go_enter Tryd.func41, Tryd.ntmps41
  go_wp2
  go_loopw [11] (fun iv wr => Below w.heap.size w wr ∧ ((iv = .int .i64 0 ∧ Hid (mt b [13, 10] p = R)) ∨ (iv = .int .i64 1 ∧ Hid (mt b [10] (p + 1) = R)) ∨ (iv = .int .i64 2 ∧ Hid (mt b [] (p + 2) = R)))) (fun iv _ => 2 - (intOf iv).toNat)
  case atStart => exact ⟨Below.refl _ _, .inl ⟨rfl, HR.out⟩⟩
  case round =>
    obtain ⟨hB, hrel⟩ := hrel
    have HB := Lib.hid hB
    have HBw := Lib.hid (HBT.out.below hB)
    clear hB
    rcases hrel with ⟨rfl, HK⟩ | ⟨rfl, HK⟩ | ⟨rfl, HK⟩
    · have h := HK.out
      by_cases h1 : L ≤ p
      · rw [mt_short (by rw [HL.out]; exact h1)] at h
        have HH := Lib.hid h
        have h1' : ((L : Nat) : Int) ≤ (p : Int) := by omega
        clear h h1
        go_wp2
        go_ret2
        exact ⟨HB.out, .inr (by rw [← HH.out]; exact ⟨by decide, rfl⟩)⟩
      · obtain ⟨a1, c1, e1, _, _, _, hel⟩ := HBw.out.open
        simp only [Value.slice.injEq] at e1
        obtain ⟨rfl, _, rfl⟩ := e1
        obtain ⟨bb, off, rfl, hbb, hcell⟩ := hel (p) (by rw [HL.out]; omega)
        obtain ⟨z, hzk⟩ : ∃ z, b.getD (p) 0 = z := ⟨_, rfl⟩
        rw [hzk] at hcell
        have h1' : (p : Int) < (L : Int) := by omega
        have h2' : (0 : Int) ≤ (p : Int) := by omega
        by_cases h3 : z = 13
        · subst h3
          rw [mt_step (by rw [HL.out]; omega) hzk] at h
          have HH := Lib.hid h
          clear h h1 hel hzk
          go_wp2
          go_quiet (fail)
          go_wp2
          case roundEnd => exact ⟨⟨below_drewN HB.out _, .inr (.inl ⟨rfl, HH.out⟩)⟩, by simp [intOf]⟩
        · rw [mt_bad (by rw [HL.out]; omega) (by rw [hzk]; exact h3)] at h
          have HH := Lib.hid h
          clear h h1 hel hzk
          go_wp2
          go_quiet (fail)
          go_wp2
          case roundEnd =>
            rename_i hx
            exact absurd (by simpa using (show (z != 13) = false from hx)) h3
          go_ret2
          exact ⟨below_drewN HB.out _, .inr (by rw [← HH.out]; exact ⟨by decide, rfl⟩)⟩
    · have h := HK.out
      by_cases h1 : L ≤ p + 1
      · rw [mt_short (by rw [HL.out]; exact h1)] at h
        have HH := Lib.hid h
        have h1' : ((L : Nat) : Int) ≤ (p : Int) + 1 := by omega
        clear h h1
        go_wp2
        go_ret2
        exact ⟨HB.out, .inr (by rw [← HH.out]; exact ⟨by decide, rfl⟩)⟩
      · obtain ⟨a1, c1, e1, _, _, _, hel⟩ := HBw.out.open
        simp only [Value.slice.injEq] at e1
        obtain ⟨rfl, _, rfl⟩ := e1
        obtain ⟨bb, off, rfl, hbb, hcell⟩ := hel (p + 1) (by rw [HL.out]; omega)
        obtain ⟨z, hzk⟩ : ∃ z, b.getD (p + 1) 0 = z := ⟨_, rfl⟩
        rw [hzk] at hcell
        have h1' : (p : Int) + 1 < (L : Int) := by omega
        have h2' : (0 : Int) ≤ (p : Int) + 1 := by omega
        by_cases h3 : z = 10
        · subst h3
          rw [mt_step (by rw [HL.out]; omega) hzk] at h
          have HH := Lib.hid h
          clear h h1 hel hzk
          go_wp2
          go_quiet (fail)
          go_wp2
          case roundEnd => exact ⟨⟨below_drewN HB.out _, .inr (.inr ⟨rfl, HH.out⟩)⟩, by simp [intOf]⟩
        · rw [mt_bad (by rw [HL.out]; omega) (by rw [hzk]; exact h3)] at h
          have HH := Lib.hid h
          clear h h1 hel hzk
          go_wp2
          go_quiet (fail)
          go_wp2
          case roundEnd =>
            rename_i hx
            exact absurd (by simpa using (show (z != 10) = false from hx)) h3
          go_ret2
          exact ⟨below_drewN HB.out _, .inr (by rw [← HH.out]; exact ⟨by decide, rfl⟩)⟩
    · have HH := Lib.hid HK.out
      go_wp2
      go_ret2
      exact ⟨HB.out, .inl (by rw [← HH.out]; exact ⟨rfl, rfl⟩)⟩
end Go.Proofs.YtkohbbnnjakhjaaDoor.ChunkD
