/-
  Package code over this seat's translation, exactly: put, Encode, get, Decode.
  Conditions: the bounds that stand in each.
-/
import Derived.Test.YtbbhinhledkceaaCodeS
import Derived.Test.YtbbhinhledkceaaBits
import Derived.Test.YtbbhinhledkceaaBytesAt
import Derived.Deep.QuietTactic
import Derived.BigQuiet
namespace Go.Proofs.Ytbbhinhledkceaa.CodeC
open Go.RowKit ModL BA
set_option linter.unusedSimpArgs false
set_option linter.unusedVariables false

def mid (C : List Int) : List Int := if C.length % 8 = 0 then pk C ++ [0] else pk C
theorem mid_len (C : List Int) : (mid C).length = C.length / 8 + 1 := by
  unfold mid
  split
  · rw [List.length_append, pk_len, List.length_singleton]; omega
  · rw [pk_len]; omega
theorem mid_get (C : List Int) (i : Nat) : (mid C).getD i 0 = byteAt C i := by
  have hb0 : ∀ i, (C.length + 7) / 8 ≤ i → byteAt C i = 0 := fun i hi => by
    unfold byteAt
    rw [getD_big C _ (by omega), getD_big C _ (by omega), getD_big C _ (by omega), getD_big C _ (by omega), getD_big C _ (by omega), getD_big C _ (by omega), getD_big C _ (by omega), getD_big C _ (by omega)]
    rfl
  have hh := pk_len C
  unfold mid
  by_cases hi : i < (C.length + 7) / 8
  · rw [← pk_get C i hi]
    split
    · simp only [List.getD]
      rw [List.getElem?_append_left (by omega)]
    · rfl
  · rw [hb0 i (by omega)]
    split
    · rw [getD_snoc, if_neg (by omega)]
      split <;> rfl
    · exact getD_big _ _ (by omega)
theorem mid_low {C : List Int} (hB : Bit C) : (0 ≤ byteAt C (C.length / 8) ∧ byteAt C (C.length / 8) ≤ 255) ∧ byteAt C (C.length / 8) % 2 ^ (7 - C.length % 8 + 1) = 0 := by
  refine ⟨byteAt_bd hB _, ?_⟩
  unfold byteAt
  have hz : ∀ k, C.length ≤ k → C.getD k 0 = 0 := getD_big C
  generalize C.length = n at *
  have hr : n % 8 = 0 ∨ n % 8 = 1 ∨ n % 8 = 2 ∨ n % 8 = 3 ∨ n % 8 = 4 ∨ n % 8 = 5 ∨ n % 8 = 6 ∨ n % 8 = 7 := by omega
  obtain ⟨q, hq⟩ : ∃ q, n / 8 = q := ⟨_, rfl⟩
  rw [hq]
  rcases hr with hr | hr | hr | hr | hr | hr | hr | hr
  all_goals
    have hn : n = 8 * q + n % 8 := by omega
    rw [hr] at hn
    rw [hr]
    subst hn
    clear hr hq
    simp (disch := omega) only [hz]
    simp only [Nat.sub_zero, Nat.reduceSub, Nat.reduceAdd, show (2 : Int) ^ 8 = 256 from rfl, show (2 : Int) ^ 7 = 128 from rfl, show (2 : Int) ^ 6 = 64 from rfl, show (2 : Int) ^ 5 = 32 from rfl, show (2 : Int) ^ 4 = 16 from rfl, show (2 : Int) ^ 3 = 8 from rfl, show (2 : Int) ^ 2 = 4 from rfl, show (2 : Int) ^ 1 = 2 from rfl]
    omega
theorem and1 (X : Int) (h0 : 0 ≤ X) (h1 : X < 9223372036854775808) : bits .and .i64 X 1 = X % 2 := by
  have := BitsL.mask_i64 1 (by decide) X h0 h1
  simpa using this
theorem put_val {C : List Int} (hB : Bit C) {X : Int} (h0 : 0 ≤ X) (h1 : X ≤ 511) {r2 : Nat} (hr : r2 = 7 - C.length % 8) {y : Int} (hy : (mid C).getD (C.length / 8) 0 = y) :
    bits .or .u8 y (bits .and .i64 X 1 % 256 * 2 ^ min r2 8 % 256) = y + X % 2 * 2 ^ (7 - C.length % 8) := by
  rw [mid_get] at hy
  obtain ⟨⟨l1, l2⟩, l3⟩ := mid_low hB
  rw [hy] at l1 l2 l3
  rw [and1 X h0 (by omega), ← hr, show min r2 8 = r2 by omega]
  rw [← hr] at l3
  have hp : (2 : Int) ^ (r2 + 1) = 2 * 2 ^ r2 := by rw [Int.pow_succ]; omega
  have hP : (0 : Int) < 2 ^ r2 := Int.pow_pos (by decide)
  have hP2 : (2 : Int) ^ r2 ≤ 128 := by
    have hc : r2 = 0 ∨ r2 = 1 ∨ r2 = 2 ∨ r2 = 3 ∨ r2 = 4 ∨ r2 = 5 ∨ r2 = 6 ∨ r2 = 7 := by omega
    rcases hc with rfl | rfl | rfl | rfl | rfl | rfl | rfl | rfl <;> decide
  have hb : X % 2 = 0 ∨ X % 2 = 1 := by omega
  have hbit : X % 2 % 256 * 2 ^ r2 % 256 = X % 2 * 2 ^ r2 := by
    rcases hb with h | h <;> rw [h]
    · simp
    · rw [show (1 : Int) % 256 = 1 from rfl, Int.one_mul]; omega
  rw [hbit]
  refine BitsL.join_u8 (r2 + 1) y _ l1 l3 (by omega) ?_ ?_ ?_
  · rcases hb with h | h <;> rw [h] <;> omega
  · rw [hp]; rcases hb with h | h <;> rw [h] <;> omega
  · rcases hb with h | h <;> rw [h] <;> omega
/-- A row of these bits behind a pointer. -/
structure RowX (w : World) (b base : Nat) (C : List Int) : Prop where
  ex : ∃ v, w.cell? ⟨b, 0, none⟩ = some v ∧ BytesL.Own w base v (pk C)
  c1 : w.cell? ⟨b, 1, none⟩ = some (.int .i64 (C.length : Nat))
  f0 : w.frozen? ⟨b, 0, none⟩ = false
  f1 : w.frozen? ⟨b, 1, none⟩ = false
structure RowM (w : World) (b base : Nat) (C : List Int) : Prop where
  ex : ∃ v, w.cell? ⟨b, 0, none⟩ = some v ∧ BytesL.Own w base v (mid C)
  c1 : w.cell? ⟨b, 1, none⟩ = some (.int .i64 (C.length : Nat))
  f0 : w.frozen? ⟨b, 0, none⟩ = false
  f1 : w.frozen? ⟨b, 1, none⟩ = false
theorem RowX.step {w : World} {b base m g cap L q : Nat} {C : List Int} {t : Int} (hv : w.cell? ⟨b, 0, none⟩ = some (.slice (some ⟨g, 0, none⟩) L cap)) (hc : w.cell? ⟨b, 1, none⟩ = some (.int .i64 m)) (f0 : w.frozen? ⟨b, 0, none⟩ = false) (f1 : w.frozen? ⟨b, 1, none⟩ = false)
    (hO : BytesL.Own w base (.slice (some ⟨g, 0, none⟩) L cap) (mid C)) (hlen : L = (mid C).length) (hm : C.length = m) (hq : q = C.length / 8) (hb : b < base) (hg : base ≤ g) (Y n : Int) (hY : Y = (mid C).getD q 0 + t * 2 ^ (7 - C.length % 8)) (hn : n = (m + 1 : Nat)) :
    RowX ((w.setCell ⟨g, q, none⟩ (.int .u8 Y)).setCell ⟨b, 1, none⟩ (.int .i64 n)).drew b base (C ++ [t]) := by
  have hne : b ≠ g := by omega
  have hO' : BytesL.Own (w.setCell ⟨g, q, none⟩ (.int .u8 Y)) base (.slice (some ⟨g, 0, none⟩) L cap) ((mid C).set q Y) := by
    subst hlen
    have h := (World.ownsRow.stored hO q (.int .u8 Y)).1
    unfold BytesL.Own
    rw [List.length_set, BytesL.valB, List.map_set]
    exact h
  have hp : (mid C).set q Y = pk (C ++ [t]) := by rw [pk_snoc, hY, hq]; rfl
  rw [hp] at hO'
  subst hn
  refine ⟨⟨_, ?_, own_drew (own_setCell hO' _ hb _)⟩, ?_, by simp [go_sem, f0], by simp [go_sem, f1]⟩
  · show ((w.setCell ⟨g, q, none⟩ (.int .u8 Y)).setCell ⟨b, 1, none⟩ _).cell? _ = _
    rw [World.cell?_setCell_other _ _ _ _ (by simp), World.cell?_setCell_other _ _ _ _ (by simp [hne])]
    exact hv
  · rw [List.length_append, List.length_singleton, hm]
    show ((w.setCell ⟨g, q, none⟩ (.int .u8 Y)).setCell ⟨b, 1, none⟩ _).cell? _ = _
    exact World.cell?_setCell_same _ _ _ ((World.cell?_setCell_other _ _ _ _ (by simp [hne])).trans hc)
set_option maxHeartbeats 4000000 in
theorem put_exact (b base : Nat) (B : List Int) (x many : Int) (w : World) (h : RowX w b base B) (hb : b < base) (hbase : base ≤ w.heap.size) (hm : 0 ≤ many ∧ many ≤ 9) (hn : B.length ≤ 1099511627776) (hx : 0 ≤ x ∧ x ≤ 511) (hbit : Bit B) :
    Calls Try.prog 39 #[.pointer (some ⟨b, 0, none⟩), .int .i64 x, .int .i64 many] w fun e w' => e = .returned (.tuple #[]) ∧ RowX w' b base (B ++ num2 x many.toNat) ∧ Mod (fun k => k = b ∨ base ≤ k) w w' := by
  obtain ⟨hm1, hm2⟩ := hm
  obtain ⟨hx1, hx2⟩ := hx
  have H := Lib.hid h
  have HBIT := Lib.hid hbit
  obtain ⟨n, hnn⟩ : ∃ n, B.length = n := ⟨_, rfl⟩
  have HN := Lib.hid hnn
  rw [hnn] at hn
  clear h hbit hnn
  go_enter Try.func39, Try.ntmps39
  go_wp2
  go_loopw [6] (fun i wr => ∃ (k m : Nat) (C : List Int), Hid (m = n + k ∧ C = B ++ (num2 x many.toNat).take k ∧ C.length = m ∧ Bit C) ∧ (k : Int) ≤ many ∧ i = .int .i64 (many - 1 - k) ∧ RowX wr b base C ∧ Mod (fun k => k = b ∨ base ≤ k) w wr) (fun i _ => (intOf i + 1).toNat)
  case atStart => exact ⟨0, n, B, ⟨rfl, by simp, HN.out, HBIT.out⟩, by omega, by simp, H.out, Mod.refl _ _⟩
  case round =>
    obtain ⟨k, m, C, HK, hk, rfl, hR, hM⟩ := hrel
    have hmb : m ≤ 1099511627786 := by have := HK.out.1; omega
    have HR := Lib.hid hR
    have HM := Lib.hid hM
    have hsz := hM.size
    clear hR hM
    obtain ⟨wo, rfl⟩ : ∃ wo : World, wo = wr := ⟨_, rfl⟩
    by_cases hlt : (k : Int) < many
    · obtain ⟨v, hv, hown⟩ := HR.out.ex
      have hc1 := HR.out.c1
      rw [HK.out.2.2.1] at hc1
      have hf0 := HR.out.f0
      have hf1 := HR.out.f1
      have HO := Lib.hid hown
      have HL : Hid ((pk C).length = (m + 7) / 8) := by show _ = _; rw [pk_len, HK.out.2.2.1]
      clear hown
      have hblt : b < wo.heap.size := block_lt_of_cell hc1
      go_upto_if 18 with fail
      go_cut [6] from 9 to 59 (fun i wc => i = .int .i64 (many - 1 - k) ∧ RowM wc b base C ∧ Mod (fun k => k = b ∨ base ≤ k) w wc)
      case first =>
        by_cases h8 : m % 8 = 0
        · have h8' : ((m : Int) % 8 == 0) = true := by simp; omega
          have HMD : Hid (mid C = pk C ++ [0]) := by show _ = _; unfold mid; rw [HK.out.2.2.1, if_pos h8]
          go_wp2_with (at_builtin; refine BytesL.wpList_append_byte_sl rfl _ _ rfl base v (pk C) rfl (World.ownsRow.alloc HO.out _) wo.heap.size 1 _ rfl (BytesL.cell_new1 _ _ _) (by have := HL.out; omega) (BytesL.le_alloc _ (by omega)) ?_; intro g' cap w1 hcp1 hcp2 hg1 hg2 hown1 hB1 hgb; have HG := Lib.hid (And.intro hown1 hgb); have hblk := hgb.block b (by simp; omega) (by intro e; have := (own_lt HO.out b e.symm).1; omega); have k0 := (World.cell?_of_block (a := ⟨b, 0, none⟩) hblk); have k1 := (World.cell?_of_block (a := ⟨b, 1, none⟩) hblk); have k2 := (World.frozen?_of_block (a := ⟨b, 0, none⟩) hblk); have k3 := (World.frozen?_of_block (a := ⟨b, 1, none⟩) hblk); clear hown1 hgb hblk hB1)
          go_meet
          have hgb2 : b ≠ g' := by omega
          refine ⟨rfl, ⟨⟨_, World.cell?_setCell_same _ _ _ (k0.trans ((cell_alloc _ _ _ _ hblt).trans hv)), by rw [HMD.out]; exact own_setCell HG.out.1 _ hb _⟩, ?_, by simpa [go_sem] using k2.trans ((frozen_alloc _ _ _ _ hblt).trans hf0), by simpa [go_sem] using k3.trans ((frozen_alloc _ _ _ _ hblt).trans hf1)⟩, ((HM.out.alloc _).grown HG.out.2 (fun k hk _ => .inr (own_lt HO.out k hk).1)).setCell (fun _ => .inl rfl) _⟩
          rw [World.cell?_setCell_other _ _ _ _ (by simp), HK.out.2.2.1]
          exact k1.trans ((cell_alloc _ _ _ _ hblt).trans hc1)
        · have h8' : ((m : Int) % 8 == 0) = false := by simp; omega
          have HMD : Hid (mid C = pk C) := by show _ = _; unfold mid; rw [HK.out.2.2.1, if_neg h8]
          go_wp2_with fail
          go_meet
          exact ⟨rfl, ⟨⟨v, hv, by rw [HMD.out]; exact HO.out⟩, by rw [HK.out.2.2.1]; exact hc1, hf0, hf1⟩, HM.out⟩
      case rest =>
        obtain ⟨rfl, hR, hM⟩ := hcut
        have HM2 := Lib.hid hM
        have HR2 := Lib.hid hR
        obtain ⟨v2, hv2, hown2⟩ := hR.ex
        have hc1 := hR.c1
        rw [HK.out.2.2.1] at hc1
        have hf0 := hR.f0
        have hf1 := hR.f1
        have hsz2 := hM.size
        have hl2 : (mid C).length = m / 8 + 1 := by rw [mid_len, HK.out.2.2.1]
        obtain ⟨g, cap, rfl, h1, h2, h3, h4⟩ := hown2.form (by intro e; rw [e] at hl2; simp at hl2)
        have hcell := World.ownsRow.cellAt hown2 (m / 8) (by omega)
        have hfr := World.ownsRow.frozenAt hown2 (m / 8)
        have hy : (BytesL.valB (mid C))[m / 8]? = some (.int .u8 ((mid C).getD (m / 8) 0)) := by
          rw [BytesL.valB, List.getElem?_map, List.getElem?_eq_getElem (by omega)]; simp [List.getD, show m / 8 < (mid C).length by omega]
        rw [hy] at hcell
        have HO2 := Lib.hid hown2
        obtain ⟨y, hyy⟩ : ∃ y, (mid C).getD (m / 8) 0 = y := ⟨_, rfl⟩
        rw [hyy] at hcell
        have HY := Lib.hid hyy
        have hix : (0 : Int) ≤ ((m / 8 : Nat) : Int) ∧ ((m / 8 : Nat) : Int) < ((mid C).length : Int) := by omega
        obtain ⟨hix1, hix2⟩ := hix
        have e1 : IntKind.i64.wrap ((m : Int) / 8) = ((m / 8 : Nat) : Int) := by rw [IntWalk.i64_in _ (by omega)]; omega
        have e3 : IntKind.i64.wrap (7 - (m : Int).tmod 8) = ((7 - m % 8 : Nat) : Int) := by rw [Int.tmod_eq_emod_of_nonneg (by omega), IntWalk.i64_in _ (by omega)]; omega
        have hr : ((7 - m % 8 : Nat) : Int) < 64 := by omega
        have hr2 : (0 : Int) ≤ ((7 - m % 8 : Nat) : Int) := by omega
        have HQ : Hid (m / 8 = C.length / 8) := by show _ = _; rw [HK.out.2.2.1]
        have HRR : Hid (7 - m % 8 = 7 - C.length % 8) := by show _ = _; rw [HK.out.2.2.1]
        generalize m / 8 = q at *
        generalize 7 - m % 8 = r2 at *
        have HL2 := Lib.hid hl2
        clear hl2
        obtain ⟨L, hLL⟩ : ∃ L, (mid C).length = L := ⟨_, rfl⟩
        have HLL' : Hid (L = (mid C).length) := hLL.symm
        rw [hLL] at hix2 hv2
        rw [hLL] at HL2 HO2
        clear hLL
        clear hy hown2 hR hM hv hyy
        go_wp2_with fail
        go_still_tail 25, (by kernel_rfl)
        change wpList _ _ _ _ _ wc.drew
        clear e1 e3
        go_wp2
        have HXB : Hid (0 ≤ x / 2 ^ (many.toNat - 1 - k) ∧ x / 2 ^ (many.toNat - 1 - k) ≤ 511) := by
          have hP : (0 : Int) < 2 ^ (many.toNat - 1 - k) := Int.pow_pos (by decide)
          exact ⟨Int.ediv_nonneg hx1 (by omega), Int.le_trans (Int.ediv_le_self _ hx1) hx2⟩
        go_roundw
        case rel =>
          have hT : (num2 x many.toNat).take (k + 1) = (num2 x many.toNat).take k ++ [x / 2 ^ (many.toNat - 1 - k) % 2] := by
            rw [List.take_succ_eq_append_getElem (by rw [num2_len]; omega)]
            congr 2
            have := num2_get x many.toNat k (by omega)
            simp only [List.getD] at this
            rw [List.getElem?_eq_getElem (by rw [num2_len]; omega)] at this
            exact this
          refine ⟨k + 1, m + 1, C ++ [x / 2 ^ (many.toNat - 1 - k) % 2], ⟨by have := HK.out.1; omega, ?_, by rw [List.length_append, List.length_singleton, HK.out.2.2.1], bit_snoc HK.out.2.2.2 (by omega)⟩, by omega, by simp; omega, ?_, ?_⟩
          · rw [hT, ← List.append_assoc, ← HK.out.2.1]
          · exact RowX.step hv2 hc1 hf0 hf1 HO2.out HLL'.out HK.out.2.2.1 HQ.out hb h3 _ _ (by rw [put_val HK.out.2.2.2 HXB.out.1 HXB.out.2 HRR.out (by rw [← HQ.out]; exact HY.out), HY.out]) (by omega)
          · exact ((HM2.out.setCell (fun _ => .inr h3) _).setCell (fun _ => .inl rfl) _).drew
        case measure => simp [intOf]; omega
    · go_wp2
      go_end0
      obtain rfl : (k : Int) = many := by omega
      refine ⟨rfl, ?_, HM.out⟩
      have h2 := HR.out
      rw [HK.out.2.1, List.take_of_length_le (by rw [num2_len]; omega)] at h2
      exact h2
/-- A reader of bits at block b over bytes: n are gone. -/
structure RowR (w0 w : World) (b : Nat) (v : Value) (l : List Int) (n : Nat) : Prop where
  c0 : w.cell? ⟨b, 0, none⟩ = some v
  c1 : w.cell? ⟨b, 1, none⟩ = some (.int .i64 n)
  f1 : w.frozen? ⟨b, 1, none⟩ = false
  bel : Below w0.heap.size w0 w
  at0 : BytesAt w0 v l
  new : w0.heap.size ≤ b
theorem RowR.drewN {w0 w : World} {b : Nat} {v : Value} {l : List Int} {n : Nat} (h : RowR w0 w b v l n) (k : Nat) : RowR w0 (w.drewN k) b v l n :=
  ⟨by simpa using h.c0, by simpa using h.c1, by simpa using h.f1, ⟨h.bel.os, h.bel.tape, h.bel.output, h.bel.size, h.bel.block⟩, h.at0, h.new⟩
theorem RowR.set {w0 w : World} {b : Nat} {v : Value} {l : List Int} {n : Nat} (h : RowR w0 w b v l n) (m : Nat) : RowR w0 (w.setCell ⟨b, 1, none⟩ (.int .i64 m)) b v l m :=
  ⟨(World.cell?_setCell_other _ _ _ _ (by simp)).trans h.c0, World.cell?_setCell_same _ _ _ h.c1, by simpa using h.f1, h.bel.setCell h.new _, h.at0, h.new⟩
theorem RowR.byte {w0 w : World} {b L cap : Nat} {a : Option Addr} {l : List Int} {n : Nat} (h : RowR w0 w b (.slice a L cap) l n) (i : Nat) (hi : i < l.length) : ∃ g off, a = some ⟨g, off, none⟩ ∧ L = l.length ∧ w.cell? ⟨g, off + i, none⟩ = some (.int .u8 (l.getD i 0)) := by
  have hB := h.at0.below h.bel
  obtain ⟨a1, c1, e, -, -, -, hel⟩ := hB.open
  simp only [Value.slice.injEq] at e
  obtain ⟨rfl, rfl, rfl⟩ := e
  obtain ⟨g, off, e1, -, e2⟩ := hel i hi
  exact ⟨g, off, e1, rfl, e2⟩
theorem and1u (X : Int) (h0 : 0 ≤ X) (h1 : X < 256) : bits .and .u8 X 1 = X % 2 := by
  have := BitsL.mask_u8 1 (by decide) X h0 h1
  simpa using this
theorem pow_le20 {k : Nat} (h : k ≤ 20) : (2 : Int) ^ k ≤ 1048576 := by
  have h2 : ∀ k : Fin 21, (2 : Int) ^ k.1 ≤ 1048576 := by decide
  exact h2 ⟨k, by omega⟩
theorem get_val {x y : Int} {r : Nat} (hx0 : 0 ≤ x) (hx1 : x ≤ 1048576) (hy0 : 0 ≤ y) (hy1 : y ≤ 255) : bits .or .i64 (x * 2) (wrap64 (bits .and .u8 (y / 2 ^ r) 1)) = 2 * x + y / 2 ^ r % 2 := by
  have hP : (0 : Int) < 2 ^ r := Int.pow_pos (by decide)
  have h1 : 0 ≤ y / 2 ^ r := Int.ediv_nonneg hy0 (by omega)
  have h2 : y / 2 ^ r ≤ y := Int.ediv_le_self _ hy0
  have hw : wrap64 (y / 2 ^ r % 2) = y / 2 ^ r % 2 := by unfold wrap64; omega
  rw [and1u _ h1 (by omega), hw, BitsL.join_i64 1 (x * 2) _ (by omega) (by omega) (by omega) (by omega) (by omega) (by omega)]
  omega
set_option maxHeartbeats 4000000 in
theorem get_any {w0 w : World} {b : Nat} {v : Value} {l : List Int} {n : Nat} (h : RowR w0 w b v l n) (many : Nat) (hm : n + many ≤ 8 * l.length) (h9 : many ≤ 20) (hl : l.length ≤ 1099511627776) (hz : ∀ z ∈ l, 0 ≤ z ∧ z ≤ 255) :
    Calls Try.prog 44 #[.pointer (some ⟨b, 0, none⟩), .int .i64 many] w fun e w' => e = .returned (.int .i64 (valZ l n many)) ∧ RowR w0 w' b v l (n + many) ∧ Mod (fun k => k = b) w w' := by
  have H := Lib.hid h
  obtain ⟨a, L, cap, rfl⟩ : ∃ a L c, v = .slice a L c := by obtain ⟨x, c, e, -⟩ := h.at0.open; exact ⟨_, _, _, e⟩
  have HZ := Lib.hid hz
  have HL : Hid (L = l.length) := by
    obtain ⟨x, c, e, -⟩ := h.at0.open
    simp only [Value.slice.injEq] at e
    exact e.2.1
  have hm' : n + many ≤ 8 * L := by rw [HL.out]; exact hm
  have hl' : L ≤ 1099511627776 := by rw [HL.out]; exact hl
  clear h hz hm hl
  go_enter Try.func44, Try.ntmps44
  go_wp2
  go_loopw [5, 7] (fun xv iv wr => ∃ (k : Nat) (x : Int), xv = .int .i64 x ∧ iv = .int .i64 k ∧ k ≤ many ∧ Hid (x = valZ l n k ∧ RowR w0 wr b (.slice a L cap) l (n + k) ∧ Mod (fun k => k = b) w wr)) (fun _ iv _ => many - (intOf iv).toNat)
  case atStart => exact ⟨0, 0, rfl, rfl, by omega, rfl, H.out, Mod.refl _ _⟩
  case round =>
    obtain ⟨k, x, rfl, rfl, hk, HK⟩ := hrel
    obtain ⟨wo, rfl⟩ : ∃ wo : World, wo = wr := ⟨_, rfl⟩
    have hx0 : 0 ≤ x := by rw [HK.out.1]; exact (valZ_bd l n k).1
    have hx1 : x ≤ 1048576 := by have h1 := (valZ_bd l n k).2; have h2 := pow_le20 (k := k) (by omega); rw [HK.out.1]; omega
    by_cases hlt : k < many
    · have hlt' : (k : Int) < (many : Int) := by omega
      have hq : (n + k) / 8 < l.length := by rw [← HL.out]; omega
      obtain ⟨g, off, rfl, -, hcell⟩ := HK.out.2.1.byte ((n + k) / 8) hq
      have hyb := HZ.out (l.getD ((n + k) / 8) 0) (by simp only [List.getD]; rw [List.getElem?_eq_getElem hq]; exact List.getElem_mem _)
      obtain ⟨y, hy⟩ : ∃ y, l.getD ((n + k) / 8) 0 = y := ⟨_, rfl⟩
      rw [hy] at hcell hyb
      obtain ⟨hy0, hy1⟩ := hyb
      have HY := Lib.hid hy
      obtain ⟨c0, c1, f1, -, -, -⟩ := HK.out.2.1
      have HR := Lib.hid (fun nq => ((HK.out.2.1.drewN nq).set (n + k + 1)))
      have e1 : IntKind.i64.wrap (((n + k : Nat) : Int) / 8) = (((n + k) / 8 : Nat) : Int) := by rw [IntWalk.i64_in _ (by omega)]; omega
      have e3 : IntKind.i64.wrap (7 - ((n + k : Nat) : Int).tmod 8) = ((7 - (n + k) % 8 : Nat) : Int) := by rw [Int.tmod_eq_emod_of_nonneg (by omega), IntWalk.i64_in _ (by omega)]; omega
      have hr : ((7 - (n + k) % 8 : Nat) : Int) < 64 := by omega
      have hr2 : (0 : Int) ≤ ((7 - (n + k) % 8 : Nat) : Int) := by omega
      have hix1 : (0 : Int) ≤ (((n + k) / 8 : Nat) : Int) := by omega
      have hix2 : (((n + k) / 8 : Nat) : Int) < (L : Int) := by omega
      have e4 : IntKind.i64.wrap (((n + k : Nat) : Int) + 1) = ((n + k + 1 : Nat) : Int) := by rw [IntWalk.i64_in _ (by omega)]; omega
      clear hy hq
      go_wp2
      go_quiet (fail)
      go_wp2
      go_roundw
      case rel =>
        have hv := get_val (r := 7 - (n + k) % 8) hx0 hx1 hy0 hy1
        refine ⟨k + 1, 2 * x + y / 2 ^ (7 - (n + k) % 8) % 2, by rw [← hv], by go_num, by omega, ?_, ?_, ?_⟩
        · rw [valZ, ← HK.out.1]
          unfold bitZ
          rw [HY.out]
        · have h := HR.out nq
          rw [show ((n + k + 1 : Nat) : Int) = (n : Int) + (k : Int) + 1 by omega] at h
          rw [← Nat.add_assoc]
          exact h
        · exact HK.out.2.2.trans ((⟨rfl, rfl, rfl, Nat.le_refl _, fun _ _ _ => rfl⟩ : Mod (fun k => k = b) wo (wo.drewN nq)).setCell (p := ⟨b, 1, none⟩) (fun _ => rfl) _)
      case measure => simp [intOf]; omega
    · obtain rfl : k = many := by omega
      go_wp2
      go_ret
      exact ⟨by rw [HK.out.1]; rfl, HK.out.2.1, HK.out.2.2⟩
theorem codeL_bits (l : List UInt8) : codeL l = pk (bitsB l ++ List.replicate ((8 - bitsN l % 8) % 8) 1) := by unfold codeL fillB; rw [bitsB_len]
set_option maxHeartbeats 4000000 in
theorem encode_exact (s : ByteArray) (w : World) (hs : s.size ≤ 68719476736) :
    Calls Try.prog 34 #[.string s] w fun e w' => ∃ v, e = .returned v ∧ BytesL.Own w' w.heap.size v (codeL s.data.toList) ∧ Below w.heap.size w w' := by
  obtain ⟨cap, w1, hrun, hB, hsz, hcap, hc⟩ := ConvL.conv_any s (w.alloc (.cells #[.slice none 0 0, .int .i64 0] 83))
  have hls : s.data.toList.length = s.size := by rw [Array.length_toList]; rfl
  simp only [World.size_alloc] at hc
  have HC := Lib.hid hc
  have HL := Lib.hid hls
  have HB0 := Lib.hid (((Below.refl w.heap.size w).alloc (Nat.le_refl _) (.cells #[.slice none 0 0, .int .i64 0] 83)).trans (hB.mono (by simp)))
  have HR0 : Hid (RowX w1 w.heap.size (w.heap.size + 2) []) := by
    have k1 : w1.cell? ⟨w.heap.size, 0, none⟩ = some (.slice none 0 0) := (hB.cell (p := ⟨w.heap.size, 0, none⟩) (by simp)).trans (by simp)
    have k2 : w1.cell? ⟨w.heap.size, 1, none⟩ = some (.int .i64 0) := (hB.cell (p := ⟨w.heap.size, 1, none⟩) (by simp)).trans (by simp)
    have k3 : w1.frozen? ⟨w.heap.size, 0, none⟩ = false := (hB.frozen (p := ⟨w.heap.size, 0, none⟩) (by simp)).trans (by simp)
    have k4 : w1.frozen? ⟨w.heap.size, 1, none⟩ = false := (hB.frozen (p := ⟨w.heap.size, 1, none⟩) (by simp)).trans (by simp)
    exact ⟨⟨_, k1, BytesL.Own.nil _ _⟩, k2, k3, k4⟩
  simp only [World.size_alloc] at hsz hrun
  have hsz' : w.heap.size + 1 < w1.heap.size := by omega
  clear hc hls hsz hB
  generalize s.data.toList = l at *
  generalize s.size = n at *
  have hlen : l.length ≤ 68719476736 := by rw [HL.out]; exact hs
  clear hs
  go_enter Try.func34, Try.ntmps34
  go_wp2
  clear hrun
  go_loopw [10] (fun i wr => ∃ k : Nat, k ≤ l.length ∧ i = .int .i64 k ∧ Hid (RowX wr w.heap.size (w.heap.size + 2) (bitsB (l.take k))) ∧ Mod (fun k => k = w.heap.size ∨ w.heap.size + 2 ≤ k) w1 wr) (fun i _ => l.length - (intOf i).toNat)
  case atStart => exact ⟨0, Nat.zero_le _, rfl, HR0.out, Mod.refl _ _⟩
  case round =>
    obtain ⟨k, hk, rfl, HR, hM⟩ := hrel
    have hb := bitsN_bd (l.take k)
    have hbl : Hid ((bitsB (l.take k)).length ≤ 1099511627776) := by show _ ≤ _; rw [bitsB_len]; have : (l.take k).length ≤ k := List.length_take_le _ _; omega
    have hl : (l.take k).length ≤ k := List.length_take_le _ _
    have hszr := hM.size
    have HM := Lib.hid hM
    have HBT := Lib.hid (bit_of (bitsB_bit (l.take k)))
    by_cases hlt : k < l.length
    · have hltn : k < n := by rw [← HL.out]; exact hlt
      have hck := (hM.cell (p := ⟨w.heap.size + 1, k, none⟩) (by simp only; omega) (by simp only; omega)).trans (HC.out k hltn)
      have HS : Hid (bitsB (l.take (k + 1)) = bitsB (l.take k) ++ letB (l.getD k 0)) := by show _ = _; rw [take_snoc l k hlt, bitsB_snoc]
      clear hM
      generalize l.getD k 0 = c at *
      have hcb := oftI_bd c
      have hcn := c.toNat_lt
      by_cases ho : 0 ≤ oftI c
      · have HBC : Hid (letB c = num2 (oftI c) (6 : Int).toNat) := by show _ = _; unfold letB; rw [if_pos ho]; exact (six_is ho (by omega)).symm
        go_wp2_with (first | (go_at_call 38; refine (idx_any _ rfl c _).mono ?_; rintro e w' ⟨rfl, rfl⟩) | (go_at_call 39; refine (put_exact w.heap.size (w.heap.size + 2) _ _ 6 _ HR.out (by omega) (by omega) (by omega) hbl.out (by omega) HBT.out).mono ?_; rintro e w2 ⟨rfl, hR2, hM2⟩; have HR2 := Lib.hid hR2; have HM2 := Lib.hid hM2; clear hR2 hM2))
        go_roundw
        case rel => exact ⟨k + 1, by omega, by go_num, by show RowX _ _ _ _; rw [HS.out, HBC.out]; exact HR2.out, HM.out.trans HM2.out⟩
        case measure => simp [intOf]; omega
      · have HBC : Hid (letB c = num2 (256 + (c.toNat : Int)) (9 : Int).toNat) := by show _ = _; unfold letB; rw [if_neg ho]; exact (nine_is (by omega) (by omega)).symm
        have hor : bits .or .i64 256 (c.toNat : Int) = 256 + (c.toNat : Int) := BitsL.join_i64 8 256 (c.toNat : Int) (by decide) (by decide) (by decide) (by omega) (by have : (2 : Int) ^ 8 = 256 := rfl; omega) (by omega)
        go_wp2_with (first | (go_at_call 38; refine (idx_any _ rfl c _).mono ?_; rintro e w' ⟨rfl, rfl⟩) | (go_at_call 39; refine (put_exact w.heap.size (w.heap.size + 2) _ _ 9 _ HR.out (by omega) (by omega) (by omega) hbl.out (by omega) HBT.out).mono ?_; rintro e w2 ⟨rfl, hR2, hM2⟩; have HR2 := Lib.hid hR2; have HM2 := Lib.hid hM2; clear hR2 hM2))
        go_roundw
        case rel => exact ⟨k + 1, by omega, by go_num, by show RowX _ _ _ _; rw [HS.out, HBC.out]; exact HR2.out, HM.out.trans HM2.out⟩
        case measure => simp [intOf]; omega
    · have hge : ¬ k < n := by rw [← HL.out]; exact hlt
      have hT := List.take_of_length_le (l := l) (i := k) (by omega)
      have HTT := Lib.hid hT
      have hbN : bitsN l ≤ 9 * l.length := (bitsN_bd l).2
      have HRE : Hid (RowX wr w.heap.size (w.heap.size + 2) (bitsB l)) := by show RowX _ _ _ _; rw [← HTT.out]; exact HR.out
      clear hT hM hl hb hbl HBT HR
      obtain ⟨N, hN⟩ : ∃ N, bitsN l = N := ⟨_, rfl⟩
      rw [hN] at hbN
      have HN := Lib.hid hN
      clear hN
      obtain ⟨wo, rfl⟩ : ∃ wo : World, wo = wr := ⟨_, rfl⟩
      go_wp2
      go_loopw [26] (fun i wr => ∃ j : Nat, j ≤ 8 ∧ Hid ((j ≤ (8 - N % 8) % 8) ∧ RowX wr w.heap.size (w.heap.size + 2) (bitsB l ++ List.replicate j 1)) ∧ Mod (fun k => k = w.heap.size ∨ w.heap.size + 2 ≤ k) wo wr) (fun _ wr => fillW (wr.cell? ⟨w.heap.size, 1, none⟩))
      case atStart => exact ⟨0, by omega, ⟨by omega, by simpa using HRE.out⟩, Mod.refl _ _⟩
      case round =>
        obtain ⟨j, hj8, HJ, hM2⟩ := hrel
        have hlc : (bitsB l ++ List.replicate j (1 : Int)).length = N + j := by rw [List.length_append, bitsB_len, HN.out, List.length_replicate]
        have hc1 := HJ.out.2.c1
        rw [hlc] at hc1
        have HLC := Lib.hid hlc
        have HM2 := Lib.hid hM2
        have hsz2 := hM2.size
        have HBT : Hid (Bit (bitsB l ++ List.replicate j 1)) := bit_app (bit_of (bitsB_bit l)) (fun z hz => .inr (List.eq_of_mem_replicate hz))
        clear hM2 hlc
        by_cases h8 : (N + j) % 8 = 0
        · have h8' : (((N + j : Nat) : Int) % 8 != 0) = false := by simp; omega
          have hjj : j = (8 - N % 8) % 8 := by have := HJ.out.1; omega
          have HJJ := Lib.hid hjj
          obtain ⟨v, hv, hown⟩ := HJ.out.2.ex
          obtain ⟨a, cp, rfl, -⟩ := hown.slice
          have HO := Lib.hid hown
          clear hown hjj
          go_wp2
          go_ret
          have hcode : codeL l = pk (bitsB l ++ List.replicate j 1) := by rw [codeL_bits, HN.out, HJJ.out]
          rw [hcode]
          exact ⟨_, rfl, HO.out.mono (by omega), HB0.out.trans (((HM.out.trans HM2.out).toBelow (B := w.heap.size) (by omega) (fun k hk => by omega)))⟩
        · have h8' : (((N + j : Nat) : Int) % 8 != 0) = true := by simp; omega
          go_wp2_with (go_at_call 39; refine (put_exact w.heap.size (w.heap.size + 2) _ _ 1 _ HJ.out.2 (by omega) (by omega) (by omega) (by rw [HLC.out]; omega) (by omega) HBT.out).mono ?_; rintro e w2 ⟨rfl, hR2, hM3⟩; have HR2 := Lib.hid hR2; have HM3 := Lib.hid hM3; clear hR2 hM3)
          have hone : num2 1 (1 : Int).toNat = [1] := rfl
          have HO1 := Lib.hid hone
          clear hone
          go_roundw
          case rel => exact ⟨j + 1, by have := HJ.out.1; omega, ⟨by have := HJ.out.1; omega, by have h := HR2.out; rw [HO1.out, List.append_assoc] at h; rw [List.replicate_succ']; exact h⟩, HM2.out.trans HM3.out⟩
          case measure =>
            have h := HR2.out.c1
            rw [HO1.out, List.length_append, List.length_singleton, HLC.out] at h
            simp only [h, hc1, fillW]
            omega
end Go.Proofs.Ytbbhinhledkceaa.CodeC
