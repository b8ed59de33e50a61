/-
  Contracts of package code over this seat's translation: Bits for every text; put and Encode as to lengths.
  Conditions: the bounds that stand in each.
-/
import Derived.Test.YtbbhinhledkceaaShelf
import Derived.Test.YtbbhinhledkceaaConv
import Derived.Test.YtbbhinhledkceaaBytes
import Derived.Test.YtbbhinhledkceaaMod
import Derived.WalkSpells
import Derived.Deep.CutBlock
import Derived.StillTailTactics
import Derived.RegionTactic
import Derived.ChangeAlike
import Derived.Lib.Hide
import Derived.IntWalk
import Derived.Outline
namespace Go.Proofs.Ytbbhinhledkceaa.CodeC
open Go.RowKit
set_option linter.unusedSimpArgs false
set_option linter.unusedVariables false

theorem ret_int {k : IntKind} {a b : Int} (h : a = b) : Ending.returned (.int k a) = .returned (.int k b) := by rw [h]
def oftenL : List UInt8 := [101, 116, 97, 111, 105, 110, 115, 104, 114, 100, 108, 117, 99, 109, 102, 119, 121, 112, 118, 98, 103, 107, 120, 106, 113, 122, 45, 47, 46, 58, 48, 32]
/-- The number of a letter among those that are often; -1: it is none of them. -/
def oftI (c : UInt8) : Int := Lib.indexByte oftenL c
theorem oftI_bd (c : UInt8) : -1 ≤ oftI c ∧ oftI c ≤ 31 := by
  have h : ∀ n : Fin 256, -1 ≤ oftI (UInt8.ofNat n.1) ∧ oftI (UInt8.ofNat n.1) ≤ 31 := by decide +kernel
  have := h ⟨c.toNat, c.toNat_lt⟩
  simpa using this
theorem oftI_low (c : UInt8) (h1 : 97 ≤ c.toNat) (h2 : c.toNat ≤ 122) : 0 ≤ oftI c := by
  have h : ∀ n : Fin 256, 97 ≤ n.1 → n.1 ≤ 122 → 0 ≤ oftI (UInt8.ofNat n.1) := by decide +kernel
  have := h ⟨c.toNat, c.toNat_lt⟩ h1 h2
  simpa using this
theorem idx_any (t : ByteArray) (ht : t.data.toList = oftenL) (c : UInt8) (w : World) :
    Calls Try.prog 38 #[.string t, .int .u8 c.toNat] w fun e w' => e = .returned (.int .i64 (oftI c)) ∧ w = w' :=
  (Try.strings_IndexByte t c.toNat w).mono fun e w' ⟨h1, h2⟩ => ⟨by rw [h1, ht, show ((c.toNat : Int)).toNat.toUInt8 = c from by simp]; rfl, h2.symm⟩
/-- How many bits a letter has; a text. -/
def bitC (c : UInt8) : Nat := if 0 ≤ oftI c then 6 else 9
def bitsN (l : List UInt8) : Nat := (l.map bitC).sum
theorem bitsN_nil : bitsN [] = 0 := rfl
theorem bitsN_append (l r : List UInt8) : bitsN (l ++ r) = bitsN l + bitsN r := by simp [bitsN]
theorem bitC_bd (c : UInt8) : 6 ≤ bitC c ∧ bitC c ≤ 9 := by unfold bitC; split <;> omega
theorem bitsN_bd (l : List UInt8) : 6 * l.length ≤ bitsN l ∧ bitsN l ≤ 9 * l.length := by
  induction l with
  | nil => simp [bitsN]
  | cons c l ih =>
    have h := bitC_bd c
    have e : bitsN (c :: l) = bitC c + bitsN l := by simp [bitsN]
    rw [e]; simp only [List.length_cons]; omega
theorem take_snoc (l : List UInt8) (k : Nat) (h : k < l.length) : l.take (k + 1) = l.take k ++ [l.getD k 0] := by
  rw [List.take_succ_eq_append_getElem h]; simp [List.getD, h]
theorem bitsN_snoc (l : List UInt8) (k : Nat) (h : k < l.length) : bitsN (l.take (k + 1)) = bitsN (l.take k) + bitC (l.getD k 0) := by
  rw [take_snoc l k h, bitsN_append]; simp [bitsN]

open ModL
/-- A row of bits behind a pointer: n of them, and as many bytes as that takes. -/
structure RowIs (w : World) (b base n : Nat) : Prop where
  ex : ∃ v l, w.cell? ⟨b, 0, none⟩ = some v ∧ BytesL.Own w base v l ∧ l.length = (n + 7) / 8
  c1 : w.cell? ⟨b, 1, none⟩ = some (.int .i64 n)
  f0 : w.frozen? ⟨b, 0, none⟩ = false
  f1 : w.frozen? ⟨b, 1, none⟩ = false
theorem own_lt {w : World} {base : Nat} {v : Value} {l : List Int} (h : BytesL.Own w base v l) : ∀ k, v.ownBlock = some k → base ≤ k ∧ k < w.heap.size := World.ownsRow.lt h
theorem own_setCell {w : World} {base : Nat} {v : Value} {l : List Int} (h : BytesL.Own w base v l) (p : Addr) (hp : p.block < base) (u : Value) : BytesL.Own (w.setCell p u) base v l := by
  obtain ⟨h1, h2⟩ := h
  refine ⟨h1, ?_⟩
  rcases h2 with h2 | ⟨g, cap, cur, hv, hg, hh, r⟩
  · exact .inl h2
  · refine .inr ⟨g, cap, cur, hv, hg, ?_, r⟩
    rw [Below.heap_setCell _ _ _ _ (by omega)]; exact hh
/-- The same, with room for one more. -/
structure RowMid (w : World) (b base m : Nat) : Prop where
  ex : ∃ v l, w.cell? ⟨b, 0, none⟩ = some v ∧ BytesL.Own w base v l ∧ l.length = m / 8 + 1
  c1 : w.cell? ⟨b, 1, none⟩ = some (.int .i64 m)
  f0 : w.frozen? ⟨b, 0, none⟩ = false
  f1 : w.frozen? ⟨b, 1, none⟩ = false
theorem own_drew {w : World} {base : Nat} {v : Value} {l : List Int} (h : BytesL.Own w base v l) : BytesL.Own w.drew base v l := World.ownsRow.drew h
theorem RowIs.step {w : World} {b base m g cap L q : Nat} {l : List Int} (hv : w.cell? ⟨b, 0, none⟩ = some (.slice (some ⟨g, 0, none⟩) L cap)) (hc : w.cell? ⟨b, 1, none⟩ = some (.int .i64 m)) (f0 : w.frozen? ⟨b, 0, none⟩ = false) (f1 : w.frozen? ⟨b, 1, none⟩ = false)
    (hO : BytesL.Own w base (.slice (some ⟨g, 0, none⟩) L cap) l) (hlen : L = l.length) (hL : l.length = (m + 1 + 7) / 8) (hb : b < base) (hg : base ≤ g) (Y n : Int) (hn : n = (m + 1 : Nat)) :
    RowIs ((w.setCell ⟨g, q, none⟩ (.int .u8 Y)).setCell ⟨b, 1, none⟩ (.int .i64 n)).drew b base (m + 1) := by
  have hne : b ≠ g := by omega
  have hO' : BytesL.Own (w.setCell ⟨g, q, none⟩ (.int .u8 Y)) base (.slice (some ⟨g, 0, none⟩) L cap) (l.set q Y) := by
    subst hlen
    have h := (World.ownsRow.stored hO q (.int .u8 Y)).1
    unfold BytesL.Own
    rw [List.length_set, BytesL.valB, List.map_set]
    exact h
  subst hn
  refine ⟨⟨_, l.set q Y, ?_, own_drew (own_setCell hO' _ hb _), by rw [List.length_set, hL]⟩, ?_, by simp [go_sem, f0], by simp [go_sem, f1]⟩
  · show ((w.setCell ⟨g, q, none⟩ (.int .u8 Y)).setCell ⟨b, 1, none⟩ _).cell? _ = _
    rw [World.cell?_setCell_other _ _ _ _ (by simp), World.cell?_setCell_other _ _ _ _ (by simp [hne])]
    exact hv
  · show ((w.setCell ⟨g, q, none⟩ (.int .u8 Y)).setCell ⟨b, 1, none⟩ _).cell? _ = _
    exact World.cell?_setCell_same _ _ _ ((World.cell?_setCell_other _ _ _ _ (by simp [hne])).trans hc)
set_option maxHeartbeats 4000000 in
theorem put_any (b base n : Nat) (x many : Int) (w : World) (h : RowIs w b base n) (hb : b < base) (hbase : base ≤ w.heap.size) (hm : 0 ≤ many ∧ many ≤ 9) (hn : n ≤ 1099511627776) :
    Calls Try.prog 39 #[.pointer (some ⟨b, 0, none⟩), .int .i64 x, .int .i64 many] w fun e w' => e = .returned (.tuple #[]) ∧ RowIs w' b base (n + many.toNat) ∧ Mod (fun k => k = b ∨ base ≤ k) w w' := by
  obtain ⟨hm1, hm2⟩ := hm
  have H := Lib.hid h
  clear h
  go_enter Try.func39, Try.ntmps39
  go_wp2
  go_loopw [6] (fun i wr => ∃ k m : Nat, Hid (m = n + k) ∧ (k : Int) ≤ many ∧ i = .int .i64 (many - 1 - k) ∧ RowIs wr b base m ∧ Mod (fun k => k = b ∨ base ≤ k) w wr) (fun i _ => (intOf i + 1).toNat)
  case atStart => exact ⟨0, n, rfl, by omega, by simp, H.out, Mod.refl _ _⟩
  case round =>
    obtain ⟨k, m, HK, hk, rfl, hR, hM⟩ := hrel
    have hmb : m ≤ 1099511627786 := by have := HK.out; omega
    have HR := Lib.hid hR
    have HM := Lib.hid hM
    have hsz := hM.size
    clear hR hM
    obtain ⟨wo, rfl⟩ : ∃ wo : World, wo = wr := ⟨_, rfl⟩
    by_cases hlt : (k : Int) < many
    · obtain ⟨v, l, hv, hown, hl⟩ := HR.out.ex
      have hc1 := HR.out.c1
      have hf0 := HR.out.f0
      have hf1 := HR.out.f1
      have HO := Lib.hid hown
      have HL := Lib.hid hl
      clear hown hl
      have hblt : b < wo.heap.size := block_lt_of_cell hc1
      go_upto_if 18 with fail
      go_cut [6] from 9 to 59 (fun i wc => i = .int .i64 (many - 1 - k) ∧ RowMid wc b base m ∧ Mod (fun k => k = b ∨ base ≤ k) w wc)
      case first =>
        by_cases h8 : m % 8 = 0
        · have h8' : ((m : Int) % 8 == 0) = true := by simp; omega
          go_wp2_with (at_builtin; refine BytesL.wpList_append_byte_sl rfl _ _ rfl base v l rfl (World.ownsRow.alloc HO.out _) wo.heap.size 1 _ rfl (BytesL.cell_new1 _ _ _) (by have := HL.out; omega) (BytesL.le_alloc _ (by omega)) ?_; intro g' cap w1 hcp1 hcp2 hg1 hg2 hown1 hB1 hgb; have HG := Lib.hid (And.intro hown1 hgb); have hblk := hgb.block b (by simp; omega) (by intro e; have := (own_lt HO.out b e.symm).1; omega); have k0 := (World.cell?_of_block (a := ⟨b, 0, none⟩) hblk); have k1 := (World.cell?_of_block (a := ⟨b, 1, none⟩) hblk); have k2 := (World.frozen?_of_block (a := ⟨b, 0, none⟩) hblk); have k3 := (World.frozen?_of_block (a := ⟨b, 1, none⟩) hblk); clear hown1 hgb hblk hB1)
          go_meet
          have hgb2 : b ≠ g' := by omega
          refine ⟨rfl, ⟨⟨_, l ++ [0], World.cell?_setCell_same _ _ _ (k0.trans ((cell_alloc _ _ _ _ hblt).trans hv)), own_setCell HG.out.1 _ hb _, by have := HL.out; simp; omega⟩, ?_, by simpa [go_sem] using k2.trans ((frozen_alloc _ _ _ _ hblt).trans hf0), by simpa [go_sem] using k3.trans ((frozen_alloc _ _ _ _ hblt).trans hf1)⟩, ((HM.out.alloc _).grown HG.out.2 (fun k hk _ => .inr (own_lt HO.out k hk).1)).setCell (fun _ => .inl rfl) _⟩
          rw [World.cell?_setCell_other _ _ _ _ (by simp)]
          exact k1.trans ((cell_alloc _ _ _ _ hblt).trans hc1)
        · have h8' : ((m : Int) % 8 == 0) = false := by simp; omega
          go_wp2_with fail
          go_meet
          exact ⟨rfl, ⟨⟨v, l, hv, HO.out, by have := HL.out; omega⟩, hc1, hf0, hf1⟩, HM.out⟩
      case rest =>
        obtain ⟨rfl, hR, hM⟩ := hcut
        have HM2 := Lib.hid hM
        have HR2 := Lib.hid hR
        obtain ⟨v2, l2, hv2, hown2, hl2⟩ := hR.ex
        have hc1 := hR.c1
        have hf0 := hR.f0
        have hf1 := hR.f1
        have hsz2 := hM.size
        obtain ⟨g, cap, rfl, h1, h2, h3, h4⟩ := hown2.form (by intro e; simp [e] at hl2)
        have hcell := World.ownsRow.cellAt hown2 (m / 8) (by omega)
        have hfr := World.ownsRow.frozenAt hown2 (m / 8)
        have hy : (BytesL.valB l2)[m / 8]? = some (.int .u8 (l2.getD (m / 8) 0)) := by
          rw [BytesL.valB, List.getElem?_map, List.getElem?_eq_getElem (by omega)]; simp [List.getD, show m / 8 < l2.length by omega]
        rw [hy] at hcell
        have HO2 := Lib.hid hown2
        generalize l2.getD (m / 8) 0 = y at *
        have hix : (0 : Int) ≤ ((m / 8 : Nat) : Int) ∧ ((m / 8 : Nat) : Int) < (l2.length : Int) := by omega
        obtain ⟨hix1, hix2⟩ := hix
        have e1 : IntKind.i64.wrap ((m : Int) / 8) = ((m / 8 : Nat) : Int) := by rw [IntWalk.i64_in _ (by omega)]; omega
        have e3 : IntKind.i64.wrap (7 - (m : Int).tmod 8) = ((7 - m % 8 : Nat) : Int) := by rw [Int.tmod_eq_emod_of_nonneg (by omega), IntWalk.i64_in _ (by omega)]; omega
        have hr : ((7 - m % 8 : Nat) : Int) < 64 := by omega
        have hr2 : (0 : Int) ≤ ((7 - m % 8 : Nat) : Int) := by omega
        have HL3 : Hid (l2.length = (m + 1 + 7) / 8) := by show _ = _; omega
        generalize m / 8 = q at *
        generalize 7 - m % 8 = r2 at *
        have HL2 := Lib.hid hl2
        clear hl2
        generalize hLL : l2.length = L at *
        have HLL := Lib.hid hLL.symm
        clear hLL
        clear hy hown2 hR hM hv
        go_wp2_with fail
        go_still_tail 25, (by kernel_rfl)
        change wpList _ _ _ _ _ wc.drew
        clear e1 e3
        go_wp2
        go_roundw
        case rel =>
          refine ⟨k + 1, m + 1, by have := HK.out; show _ = _; omega, by omega, by simp; omega, ?_, ?_⟩
          · exact RowIs.step hv2 hc1 hf0 hf1 HO2.out HLL.out (HLL.out.symm.trans HL3.out) hb h3 _ _ (by omega)
          · exact ((HM2.out.setCell (fun _ => .inr h3) _).setCell (fun _ => .inl rfl) _).drew
        case measure => simp [intOf]; omega
    · go_wp2
      go_end0
      obtain rfl : (k : Int) = many := by omega
      exact ⟨rfl, by have := HK.out; subst this; simpa using HR.out, HM.out⟩
/-- How many bits are wanting till a byte is full. -/
def fillW : Option Value → Nat
  | some (.int _ n) => ((8 - n % 8) % 8).toNat
  | _ => 0
set_option maxHeartbeats 4000000 in
theorem encode_any (s : ByteArray) (w : World) (hs : s.size ≤ 68719476736) :
    Calls Try.prog 34 #[.string s] w fun e w' => ∃ a cap, e = .returned (.slice a ((bitsN s.data.toList + 7) / 8) cap) ∧ Below w.heap.size w w' := by
  obtain ⟨cap, w1, hrun, hB, hsz, hcap, hc⟩ := ConvL.conv_any s (w.alloc (.cells #[.slice none 0 0, .int .i64 0] 83))
  have hls : s.data.toList.length = s.size := by rw [Array.length_toList]; rfl
  simp only [World.size_alloc] at hc
  have HC := Lib.hid hc
  have HL := Lib.hid hls
  have HB0 := Lib.hid (((Below.refl w.heap.size w).alloc (Nat.le_refl _) (.cells #[.slice none 0 0, .int .i64 0] 83)).trans (hB.mono (by simp)))
  have HR0 : Hid (RowIs w1 w.heap.size (w.heap.size + 2) 0) := by
    have k1 : w1.cell? ⟨w.heap.size, 0, none⟩ = some (.slice none 0 0) := (hB.cell (p := ⟨w.heap.size, 0, none⟩) (by simp)).trans (by simp)
    have k2 : w1.cell? ⟨w.heap.size, 1, none⟩ = some (.int .i64 0) := (hB.cell (p := ⟨w.heap.size, 1, none⟩) (by simp)).trans (by simp)
    have k3 : w1.frozen? ⟨w.heap.size, 0, none⟩ = false := (hB.frozen (p := ⟨w.heap.size, 0, none⟩) (by simp)).trans (by simp)
    have k4 : w1.frozen? ⟨w.heap.size, 1, none⟩ = false := (hB.frozen (p := ⟨w.heap.size, 1, none⟩) (by simp)).trans (by simp)
    exact ⟨⟨_, [], k1, BytesL.Own.nil _ _, rfl⟩, k2, k3, k4⟩
  simp only [World.size_alloc] at hsz hrun
  have hsz' : w.heap.size + 1 < w1.heap.size := by omega
  clear hc hls hsz hB
  generalize s.data.toList = l at *
  generalize s.size = n at *
  have hlen : l.length ≤ 68719476736 := by rw [HL.out]; exact hs
  clear hs
  go_enter Try.func34, Try.ntmps34
  go_wp2
  clear hrun
  go_loopw [10] (fun i wr => ∃ k : Nat, k ≤ l.length ∧ i = .int .i64 k ∧ RowIs wr w.heap.size (w.heap.size + 2) (bitsN (l.take k)) ∧ Mod (fun k => k = w.heap.size ∨ w.heap.size + 2 ≤ k) w1 wr) (fun i _ => l.length - (intOf i).toNat)
  case atStart => exact ⟨0, Nat.zero_le _, rfl, HR0.out, Mod.refl _ _⟩
  case round =>
    obtain ⟨k, hk, rfl, hR, hM⟩ := hrel
    have hb := bitsN_bd (l.take k)
    have hl : (l.take k).length ≤ k := List.length_take_le _ _
    have hszr := hM.size
    have HM := Lib.hid hM
    by_cases hlt : k < l.length
    · have hltn : k < n := by rw [← HL.out]; exact hlt
      have hck := (hM.cell (p := ⟨w.heap.size + 1, k, none⟩) (by simp only; omega) (by simp only; omega)).trans (HC.out k hltn)
      have HS := Lib.hid (bitsN_snoc l k hlt)
      clear hM
      generalize l.getD k 0 = c at *
      have hcb := oftI_bd c
      by_cases ho : 0 ≤ oftI c
      · have HBC : Hid (bitC c = 6) := by show _ = _; unfold bitC; rw [if_pos ho]
        go_wp2_with (first | (go_at_call 38; refine (idx_any _ rfl c _).mono ?_; rintro e w' ⟨rfl, rfl⟩) | (go_at_call 39; refine (put_any w.heap.size (w.heap.size + 2) _ _ 6 _ hR (by omega) (by omega) (by omega) (by omega)).mono ?_; rintro e w2 ⟨rfl, hR2, hM2⟩; have HR2 := Lib.hid hR2; have HM2 := Lib.hid hM2; clear hR2 hM2))
        go_roundw
        case rel => exact ⟨k + 1, by omega, by go_num, by rw [HS.out, HBC.out]; exact HR2.out, HM.out.trans HM2.out⟩
        case measure => simp [intOf]; omega
      · have HBC : Hid (bitC c = 9) := by show _ = _; unfold bitC; rw [if_neg ho]
        go_wp2_with (first | (go_at_call 38; refine (idx_any _ rfl c _).mono ?_; rintro e w' ⟨rfl, rfl⟩) | (go_at_call 39; refine (put_any w.heap.size (w.heap.size + 2) _ _ 9 _ hR (by omega) (by omega) (by omega) (by omega)).mono ?_; rintro e w2 ⟨rfl, hR2, hM2⟩; have HR2 := Lib.hid hR2; have HM2 := Lib.hid hM2; clear hR2 hM2))
        go_roundw
        case rel => exact ⟨k + 1, by omega, by go_num, by rw [HS.out, HBC.out]; exact HR2.out, HM.out.trans HM2.out⟩
        case measure => simp [intOf]; omega
    · have hge : ¬ k < n := by rw [← HL.out]; exact hlt
      have hT := List.take_of_length_le (l := l) (i := k) (by omega)
      rw [hT] at hR hb
      have HR := Lib.hid hR
      clear hT hR hM hl
      generalize hN : bitsN l = N at *
      have HN := Lib.hid hN
      clear hN
      obtain ⟨wo, rfl⟩ : ∃ wo : World, wo = wr := ⟨_, rfl⟩
      go_wp2
      go_loopw [26] (fun i wr => ∃ m : Nat, m ≤ N + 8 ∧ Hid ((m + 7) / 8 = (N + 7) / 8) ∧ RowIs wr w.heap.size (w.heap.size + 2) m ∧ Mod (fun k => k = w.heap.size ∨ w.heap.size + 2 ≤ k) wo wr) (fun _ wr => fillW (wr.cell? ⟨w.heap.size, 1, none⟩))
      case atStart => exact ⟨N, by omega, rfl, HR.out, Mod.refl _ _⟩
      case round =>
        obtain ⟨m, hm, HE, hR, hM2⟩ := hrel
        have hc1 := hR.c1
        have HR3 := Lib.hid hR
        have HM2 := Lib.hid hM2
        have hsz2 := hM2.size
        clear hM2
        by_cases h8 : m % 8 = 0
        · have h8' : ((m : Int) % 8 != 0) = false := by simp; omega
          obtain ⟨v, l2, hv, hown, hl2⟩ := hR.ex
          obtain ⟨a, cp, rfl, _⟩ := hown.slice
          rw [hl2, HE.out] at hv
          clear hown hl2 hR
          go_wp2
          go_ret
          exact ⟨a, cp, by rw [HN.out]; rfl, HB0.out.trans (((HM.out.trans HM2.out).toBelow (B := w.heap.size) (by omega) (fun k hk => by omega)))⟩
        · have h8' : ((m : Int) % 8 != 0) = true := by simp; omega
          go_wp2_with (go_at_call 39; refine (put_any w.heap.size (w.heap.size + 2) _ _ 1 _ hR (by omega) (by omega) (by omega) (by omega)).mono ?_; rintro e w2 ⟨rfl, hR2, hM3⟩; have HR2 := Lib.hid hR2; have HM3 := Lib.hid hM3; clear hR2 hM3)
          go_roundw
          case rel => exact ⟨m + 1, by have := HE.out; omega, by have := HE.out; show _ = _; omega, HR2.out, HM2.out.trans HM3.out⟩
          case measure =>
            have := HR2.out.c1
            simp only [this, hc1, fillW]
            omega
end Go.Proofs.Ytbbhinhledkceaa.CodeC
