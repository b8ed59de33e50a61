/-
  Package code over this seat's translation: Decode of any bytes.
  Conditions: where the bytes lie, and how many.
-/
import Derived.Test.YtbbhinhledkceaaCodeX
import Derived.Laws.Strings
namespace Go.Proofs.Ytbbhinhledkceaa.CodeC
open Go.RowKit ModL BA
set_option linter.unusedSimpArgs false
set_option linter.unusedVariables false

def intsU (l : List UInt8) : List Int := l.map fun c => (c.toNat : Int)
theorem intsU_bd (l : List UInt8) : ∀ z ∈ intsU l, 0 ≤ z ∧ z ≤ 255 := by
  intro z hz
  obtain ⟨c, _, rfl⟩ := List.mem_map.1 hz
  have := c.toNat_lt
  omega
theorem intsU_len (l : List UInt8) : (intsU l).length = l.length := by simp [intsU]
theorem intsU_snoc (l : List UInt8) (c : UInt8) : intsU (l ++ [c]) = intsU l ++ [(c.toNat : Int)] := by simp [intsU]
theorem strOf_ints (l : List UInt8) : strOf (intsU l) = ⟨l.toArray⟩ := by
  unfold strOf intsU
  congr 1
  congr 1
  rw [List.map_map]
  conv => rhs; rw [← List.map_id l]
  apply List.map_congr_left
  intro c _
  simp
theorem pow_le7 {k : Nat} (h : k ≤ 7) : (2 : Int) ^ k ≤ 128 := by
  have h2 : ∀ k : Fin 8, (2 : Int) ^ k.1 ≤ 128 := by decide
  exact h2 ⟨k, by omega⟩
theorem own_mod1 {W W' : World} {b : Nat} {v : Value} {l : List Int} (h : BytesL.Own W (b + 1) v l) (hM : Mod (fun k => k = b) W W') : BytesL.Own W' (b + 1) v l := by
  have hlt := own_lt h
  obtain ⟨h1, h2⟩ := h
  refine ⟨h1, ?_⟩
  rcases h2 with h2 | ⟨g, cap, cur, hv, hg, hh, r⟩
  · exact .inl h2
  · refine .inr ⟨g, cap, cur, hv, hg, ?_, r⟩
    have h3 := hlt g (by rw [hv]; rfl)
    rw [hM.block g h3.2 (by omega)]; exact hh
theorem RowR.lt {w0 w : World} {b : Nat} {v : Value} {l : List Int} {n : Nat} (h : RowR w0 w b v l n) : b + 1 ≤ w.heap.size := block_lt_of_cell h.c0
theorem RowR.grown {w0 w w' : World} {b : Nat} {v : Value} {l : List Int} {n : Nat} {r : Option Nat} (h : RowR w0 w b v l n) (hg : w.grownBy w' r) (hr : ∀ k, r = some k → b + 1 ≤ k) : RowR w0 w' b v l n := by
  have hlt := h.lt
  have hbl := hg.block b (by omega) (by intro e; have := hr b e.symm; omega)
  exact ⟨(World.cell?_of_block (a := ⟨b, 0, none⟩) hbl).trans h.c0, (World.cell?_of_block (a := ⟨b, 1, none⟩) hbl).trans h.c1, (World.frozen?_of_block (a := ⟨b, 1, none⟩) hbl).trans h.f1, h.bel.grown hg (by have := h.bel.size; omega) (fun k hk => by have := hr k hk; have := h.new; omega), h.at0, h.new⟩
theorem RowR.alloc {w0 w : World} {b : Nat} {v : Value} {l : List Int} {n : Nat} (h : RowR w0 w b v l n) (o : Obj) : RowR w0 (w.alloc o) b v l n := by
  have hlt := h.lt
  have hB : Below w.heap.size w (w.alloc o) := (Below.refl _ _).alloc (Nat.le_refl _) _
  exact ⟨(hB.cell (p := ⟨b, 0, none⟩) (by simp only; omega)).trans h.c0, (hB.cell (p := ⟨b, 1, none⟩) (by simp only; omega)).trans h.c1, (hB.frozen (p := ⟨b, 1, none⟩) (by simp only; omega)).trans h.f1, h.bel.alloc h.bel.size _, h.at0, h.new⟩
theorem often_idx (q : Int) (h0 : 0 ≤ q) (h1 : q < 32) (W : World) : (Instr.index 9 (.string ⟨oftenL.toArray⟩) (.int .i64 q)).run Try.prog W = .ok (.int .u8 (oftenL.getD q.toNat 0).toNat) W := by
  obtain ⟨n, rfl⟩ : ∃ n : Nat, q = n := ⟨q.toNat, by omega⟩
  have hs : (⟨oftenL.toArray⟩ : ByteArray).size = 32 := rfl
  have hl : oftenL.length = 32 := rfl
  rw [run_index_string _ _ _ _ _ Try.underlying9, dif_pos ⟨by omega, by rw [hs]; omega⟩]
  have e : ((⟨oftenL.toArray⟩ : ByteArray)[(n : Int).toNat]'(by rw [hs]; omega)) = oftenL.getD (n : Int).toNat 0 := by
    simp only [List.getD]
    rw [List.getElem?_eq_getElem (by omega)]
    rfl
  rw [e]
/-- What Decode gives. -/
def DX (R : Option (List UInt8)) (w w' : World) (e : Ending) : Prop :=
  Below w.heap.size w w' ∧ ((R = none ∧ e = .returned (.tuple #[.string ⟨#[]⟩, .iface 49 (.int .i64 2)])) ∨ ∃ o, R = some o ∧ e = .returned (.tuple #[.string ⟨o.toArray⟩, .nilIface]))
set_option maxHeartbeats 8000000 in
theorem decode_any (v : Value) (l : List Int) (w : World) (hv : BytesAt w v l) (hz : ∀ z ∈ l, 0 ≤ z ∧ z ≤ 255) (hl : l.length ≤ 17179869184) :
    Calls Try.prog 42 #[v] w fun e w' => DX (decS l (8 * l.length + 1) 0 []) w w' e := by
  obtain ⟨a, L, cap, rfl, hL⟩ : ∃ a L c, v = .slice a L c ∧ l.length = L := by obtain ⟨x, c, e, -⟩ := hv.open; exact ⟨_, _, _, e, rfl⟩
  obtain ⟨R, hR⟩ : ∃ R, decS l (8 * l.length + 1) 0 [] = R := ⟨_, rfl⟩
  rw [hR]
  have HR := Lib.hid hR
  have HL := Lib.hid hL
  have HZ := Lib.hid hz
  have HLL : Hid (l.length ≤ 1099511627776) := by show _ ≤ _; omega
  have HRR : Hid (RowR w (w.alloc (.cells #[.slice a L cap, .int .i64 0] 83)) w.heap.size (.slice a L cap) l 0) := ⟨by simp, by simp, by simp, (Below.refl _ _).alloc (Nat.le_refl _) _, hv, Nat.le_refl _⟩
  rw [hL] at hl
  clear hR hL hz hv
  go_enter Try.func42, Try.ntmps42
  go_upto_region 2 with fail
  generalize w.alloc (.cells #[.slice a L cap, .int .i64 0] 83) = w1 at *
  go_wp2
  go_loopw [5, 6] (fun ov lv wr => ∃ (n f t : Nat) (o : List UInt8) (ab : Option Addr) (cb : Nat), ov = .slice ab o.length cb ∧ lv = .int .i64 t ∧ n + t = 8 * L ∧ o.length ≤ n ∧ Hid (BytesL.Own wr (w.heap.size + 1) (.slice ab o.length cb) (intsU o) ∧ RowR w wr w.heap.size (.slice a L cap) l n ∧ decS l f n o = R ∧ 8 * L < n + f)) (fun _ lv _ => (intOf lv).toNat)
  case atStart => exact ⟨0, 8 * l.length + 1, 8 * L, [], none, 0, rfl, by go_num, by omega, by simp, BytesL.Own.nil _ _, HRR.out, HR.out, by rw [HL.out]; omega⟩
  case round =>
    obtain ⟨n, f, t, o, ab, cb, rfl, rfl, hn, ho, HK⟩ := hrel
    obtain ⟨f, rfl⟩ : ∃ g, f = g + 1 := ⟨f - 1, by have := HK.out.2.2.2; omega⟩
    obtain ⟨wo, rfl⟩ : ∃ wo : World, wo = wr := ⟨_, rfl⟩
    have HST := Lib.hid HK.out.2.2.1
    have hn1 : n + t ≤ 8 * L := by omega
    have hn2 : 8 * L ≤ n + t := by omega
    have HFU := Lib.hid HK.out.2.2.2
    have HO := Lib.hid HK.out.1
    have HRd := Lib.hid HK.out.2.1
    have HLE : Hid (8 * l.length = n + t) := by show _ = _; rw [HL.out]; omega
    have HLT : Hid (8 * l.length - n = t) := by show _ = _; rw [HL.out]; omega
    obtain ⟨c0, c1, f1, -, -, -⟩ := HRd.out
    clear HK hn
    have HCV : Hid (∀ W, BytesL.Own W (w.heap.size + 1) (.slice ab o.length cb) (intsU o) → (convert 40 9 (.slice ab o.length cb)).run Try.prog W = .ok (.string ⟨o.toArray⟩) W) := fun W h => by
      have h2 := conv_back (BytesAt.of_own h) (intsU_bd o)
      rw [strOf_ints] at h2
      exact h2
    have hG1 := fun W (h : RowR w W w.heap.size (.slice a L cap) l n) => get_any h 1
    have hv1 : valZ l n 1 = bitZ l n := by show 2 * valZ l n 0 + bitZ l (n + 0) = _; rw [Nat.add_zero]; simp [valZ]
    simp only [hv1] at hG1
    simp only [show ((1 : Nat) : Int) = 1 from rfl] at hG1
    have HG1 := Lib.hid hG1
    clear hG1 hv1
    by_cases ht0 : t = 0
    · subst ht0
      have hd : R = some o := by rw [← HST.out]; exact decS_end (by rw [HLE.out]; omega)
      have HD := Lib.hid hd
      have hcv := HCV.out wo HO.out
      clear hd
      go_wp2
      go_ret2
      exact ⟨HRd.out.bel, .inr ⟨o, HD.out, rfl⟩⟩
    · have ht1 : (0 : Int) < (t : Int) := by omega
      by_cases ht8 : t < 8
      · have ht8' : (t : Int) < 8 := by omega
        obtain ⟨x, hx⟩ : ∃ x, valZ l n t = x := ⟨_, rfl⟩
        have HX := Lib.hid hx
        have hG := get_any HRd.out t (by rw [HLE.out]; omega) (by omega) HLL.out HZ.out
        rw [hx] at hG
        have HG := Lib.hid hG
        clear hx hG
        have hsh : ((2 : Int) ^ t) ≤ 128 := pow_le7 (by omega)
        have hsh0 : (0 : Int) < (2 : Int) ^ t := Int.pow_pos (by decide)
        by_cases hxx : x = 2 ^ t - 1
        · have hd : R = some o := by rw [← HST.out]; exact decS_fill (by rw [HLE.out]; omega) ⟨by rw [HLT.out]; exact ht8, by rw [HLT.out, HX.out]; exact hxx⟩
          have HD := Lib.hid hd
          have hxb : (x == 2 ^ t - 1) = true := by rw [hxx]; simp
          have HXX := Lib.hid hxx
          clear hd hxx
          go_wp2_with (first
            | (go_at_call 44; (with_reducible refine HG.out.mono ?_); rintro e w2 ⟨rfl, hR, hM⟩; have HR2 := Lib.hid hR; have HO2 := Lib.hid (own_mod1 HO.out hM); have hcv := HCV.out w2 HO2.out; clear hR hM))
          go_ret2
          exact ⟨HR2.out.bel, .inr ⟨o, HD.out, rfl⟩⟩
        · have hxb : (x == 2 ^ t - 1) = false := beq_eq_false_iff_ne.2 hxx
          have HNF : Hid (¬ (8 * l.length - n < 8 ∧ valZ l n (8 * l.length - n) = 2 ^ (8 * l.length - n) - 1)) := fun h => by rw [HLT.out, HX.out] at h; exact hxx h.2
          have HXX := Lib.hid hxx
          have v9 : IntKind.i64.wrap (((n + t : Nat) : Int) - (t : Int)) = (n : Int) := by rw [IntWalk.i64_in _ (by omega)]; omega
          clear hxx
          by_cases ht6 : t < 6
          · have ht6' : (t : Int) < 6 := by omega
            have hd : R = none := by rw [← HST.out]; exact decS_few (by rw [HLE.out]; omega) HNF.out (by rw [HLT.out]; exact ht6)
            have HD := Lib.hid hd
            clear hd
            go_wp2_with (first
              | (go_at_call 44; (with_reducible refine HG.out.mono ?_); rintro e w2 ⟨rfl, hR, hM⟩; have HRn := Lib.hid (hR.set n); have HOc := Lib.hid (own_setCell (own_mod1 HO.out hM) ⟨w.heap.size, 1, none⟩ (Nat.lt_succ_self _) (.int .i64 n)); obtain ⟨d0, d1, d2, -, -, -⟩ := id hR; have HRc := Lib.hid HRn.out; clear hR hM))
            go_ret2
            exact ⟨HRc.out.bel, .inl ⟨HD.out, rfl⟩⟩
          · have ht6' : ¬ (t : Int) < 6 := by omega
            have hB := bitZ_bd l n
            obtain ⟨y, hy⟩ : ∃ y, bitZ l n = y := ⟨_, rfl⟩
            have HY := Lib.hid hy
            rw [hy] at hB
            simp only [hy] at HG1
            clear hy
            by_cases hy0 : y = 0
            · subst hy0
              obtain ⟨q, hq⟩ : ∃ q, valZ l (n + 1) 5 = q := ⟨_, rfl⟩
              have HQ := Lib.hid hq
              have hqb := valZ_bd l (n + 1) 5
              rw [hq, show (2 : Int) ^ 5 = 32 from rfl] at hqb
              obtain ⟨hq0, hq1⟩ := hqb
              have HST2 : Hid (decS l f (n + 6) (o ++ [oftenL.getD q.toNat 0]) = R) := by show _ = R; rw [← HST.out, decS_often (by rw [HLE.out]; omega) HNF.out (by rw [HLT.out]; omega) HY.out, HQ.out]
              have HG5 := Lib.hid (fun W (h : RowR w W w.heap.size (.slice a L cap) l (n + 1)) => get_any h 5 (by rw [HLE.out]; omega) (by decide) HLL.out HZ.out)
              simp only [hq, show ((5 : Nat) : Int) = 5 from rfl] at HG5
              have hix : ∀ W, (Instr.index 9 (.string ⟨oftenL.toArray⟩) (.int .i64 q)).run Try.prog W = .ok (.int .u8 (oftenL.getD q.toNat 0).toNat) W := fun W => often_idx q hq0 hq1 W
              obtain ⟨d, hd⟩ : ∃ d, oftenL.getD q.toNat 0 = d := ⟨_, rfl⟩
              rw [hd] at HST2
              simp only [hd] at hix
              unfold oftenL at hix
              clear hq hd
              go_wp2_with (first
                | (go_at_call 44; (with_reducible refine HG.out.mono ?_); rintro e w2 ⟨rfl, hR, hM⟩; have HRn := Lib.hid (hR.set n); have HOc := Lib.hid (own_setCell (own_mod1 HO.out hM) ⟨w.heap.size, 1, none⟩ (Nat.lt_succ_self _) (.int .i64 n)); obtain ⟨d0, d1, d2, -, -, -⟩ := id hR; have HRc := Lib.hid HRn.out; clear hR hM)
                | (go_at_call 44; (with_reducible refine (HG1.out _ HRc.out (by rw [HLE.out]; omega) (by decide) HLL.out HZ.out).mono ?_); rintro e w3 ⟨rfl, hR, hM⟩; have HR3 := Lib.hid hR; have HO3 := Lib.hid (own_mod1 HOc.out hM); clear hR hM)
                | (go_at_call 44; (with_reducible refine (HG5.out _ HR3.out).mono ?_); rintro e w4 ⟨rfl, hR, hM⟩; have HR4 := Lib.hid hR; have HO4 := Lib.hid (own_mod1 HO3.out hM); have hw4 : w.heap.size + 1 ≤ w4.heap.size := hR.lt; clear hR hM)
                | (at_builtin; refine BytesL.wpList_append_byte_sl rfl _ _ rfl (w.heap.size + 1) _ _ rfl (World.ownsRow.alloc HO4.out _) w4.heap.size 1 _ rfl (BytesL.cell_new1 _ _ _) (by rw [intsU_len]; omega) (BytesL.le_alloc _ hw4) ?_; intro g' cp w5 hcp1 hcp2 hg1 hg2 hown1 hB1 hgb; have HO5 := Lib.hid hown1; have HR5 := Lib.hid ((HR4.out.alloc (.cells #[.int .u8 (d.toNat : Int)] 5)).grown hgb (fun k hk => (own_lt HO4.out k hk).1)); obtain ⟨j0, j1, j2, -, -, -⟩ := HR5.out; rw [intsU_len]; rw [intsU_len] at HO5; clear hown1 hB1 hgb))
              go_roundw
              case rel => exact ⟨n + 6, f, t - 6, o ++ [d], _, cp, by rw [List.length_append]; rfl, by go_num, by omega, by rw [List.length_append, List.length_singleton]; omega, by rw [List.length_append, intsU_snoc]; exact HO5.out, HR5.out, HST2.out, by have := HFU.out; omega⟩
              case measure => simp [intOf]; omega
            · have hyy : y = 1 := by omega
              subst hyy
              have hd : R = none := by rw [← HST.out]; exact decS_few9 (by rw [HLE.out]; omega) HNF.out (by rw [HLT.out]; omega) (by rw [HY.out]; decide) (by rw [HLT.out]; omega)
              have HD := Lib.hid hd
              have ht9 : (t : Int) < 9 := by omega
              clear hd
              go_wp2_with (first
                | (go_at_call 44; (with_reducible refine HG.out.mono ?_); rintro e w2 ⟨rfl, hR, hM⟩; have HRn := Lib.hid (hR.set n); have HOc := Lib.hid (own_setCell (own_mod1 HO.out hM) ⟨w.heap.size, 1, none⟩ (Nat.lt_succ_self _) (.int .i64 n)); obtain ⟨d0, d1, d2, -, -, -⟩ := id hR; have HRc := Lib.hid HRn.out; clear hR hM)
                | (go_at_call 44; (with_reducible refine (HG1.out _ HRc.out (by rw [HLE.out]; omega) (by decide) HLL.out HZ.out).mono ?_); rintro e w3 ⟨rfl, hR, hM⟩; have HR3 := Lib.hid hR; have HO3 := Lib.hid (own_mod1 HOc.out hM); clear hR hM))
              go_ret2
              exact ⟨HR3.out.bel, .inl ⟨HD.out, rfl⟩⟩
      · have ht8' : ¬ (t : Int) < 8 := by omega
        have ht6' : ¬ (t : Int) < 6 := by omega
        have HNF : Hid (¬ (8 * l.length - n < 8 ∧ valZ l n (8 * l.length - n) = 2 ^ (8 * l.length - n) - 1)) := fun h => by have h1 := h.1; rw [HLT.out] at h1; omega
        have hB := bitZ_bd l n
        obtain ⟨y, hy⟩ : ∃ y, bitZ l n = y := ⟨_, rfl⟩
        have HY := Lib.hid hy
        rw [hy] at hB
        simp only [hy] at HG1
        clear hy
        by_cases hy0 : y = 0
        · subst hy0
          obtain ⟨q, hq⟩ : ∃ q, valZ l (n + 1) 5 = q := ⟨_, rfl⟩
          have HQ := Lib.hid hq
          have hqb := valZ_bd l (n + 1) 5
          rw [hq, show (2 : Int) ^ 5 = 32 from rfl] at hqb
          obtain ⟨hq0, hq1⟩ := hqb
          have HST2 : Hid (decS l f (n + 6) (o ++ [oftenL.getD q.toNat 0]) = R) := by show _ = R; rw [← HST.out, decS_often (by rw [HLE.out]; omega) HNF.out (by rw [HLT.out]; omega) HY.out, HQ.out]
          have HG5 := Lib.hid (fun W (h : RowR w W w.heap.size (.slice a L cap) l (n + 1)) => get_any h 5 (by rw [HLE.out]; omega) (by decide) HLL.out HZ.out)
          simp only [hq, show ((5 : Nat) : Int) = 5 from rfl] at HG5
          have hix : ∀ W, (Instr.index 9 (.string ⟨oftenL.toArray⟩) (.int .i64 q)).run Try.prog W = .ok (.int .u8 (oftenL.getD q.toNat 0).toNat) W := fun W => often_idx q hq0 hq1 W
          obtain ⟨d, hd⟩ : ∃ d, oftenL.getD q.toNat 0 = d := ⟨_, rfl⟩
          rw [hd] at HST2
          simp only [hd] at hix
          unfold oftenL at hix
          clear hq hd
          go_wp2_with (first
            | (go_at_call 44; (with_reducible refine (HG1.out _ HRd.out (by rw [HLE.out]; omega) (by decide) HLL.out HZ.out).mono ?_); rintro e w3 ⟨rfl, hR, hM⟩; have HR3 := Lib.hid hR; have HO3 := Lib.hid (own_mod1 HO.out hM); clear hR hM)
            | (go_at_call 44; (with_reducible refine (HG5.out _ HR3.out).mono ?_); rintro e w4 ⟨rfl, hR, hM⟩; have HR4 := Lib.hid hR; have HO4 := Lib.hid (own_mod1 HO3.out hM); have hw4 : w.heap.size + 1 ≤ w4.heap.size := hR.lt; clear hR hM)
            | (at_builtin; refine BytesL.wpList_append_byte_sl rfl _ _ rfl (w.heap.size + 1) _ _ rfl (World.ownsRow.alloc HO4.out _) w4.heap.size 1 _ rfl (BytesL.cell_new1 _ _ _) (by rw [intsU_len]; omega) (BytesL.le_alloc _ hw4) ?_; intro g' cp w5 hcp1 hcp2 hg1 hg2 hown1 hB1 hgb; have HO5 := Lib.hid hown1; have HR5 := Lib.hid ((HR4.out.alloc (.cells #[.int .u8 (d.toNat : Int)] 5)).grown hgb (fun k hk => (own_lt HO4.out k hk).1)); obtain ⟨j0, j1, j2, -, -, -⟩ := HR5.out; rw [intsU_len]; rw [intsU_len] at HO5; clear hown1 hB1 hgb))
          go_roundw
          case rel => exact ⟨n + 6, f, t - 6, o ++ [d], _, cp, by rw [List.length_append]; rfl, by go_num, by omega, by rw [List.length_append, List.length_singleton]; omega, by rw [List.length_append, intsU_snoc]; exact HO5.out, HR5.out, HST2.out, by have := HFU.out; omega⟩
          case measure => simp [intOf]; omega
        · have hyy : y = 1 := by omega
          subst hyy
          by_cases ht9 : t < 9
          · have hd : R = none := by rw [← HST.out]; exact decS_few9 (by rw [HLE.out]; omega) HNF.out (by rw [HLT.out]; omega) (by rw [HY.out]; decide) (by rw [HLT.out]; omega)
            have HD := Lib.hid hd
            have ht9' : (t : Int) < 9 := by omega
            clear hd
            go_wp2_with (first
            | (go_at_call 44; (with_reducible refine (HG1.out _ HRd.out (by rw [HLE.out]; omega) (by decide) HLL.out HZ.out).mono ?_); rintro e w3 ⟨rfl, hR, hM⟩; have HR3 := Lib.hid hR; have HO3 := Lib.hid (own_mod1 HO.out hM); clear hR hM))
            go_ret2
            exact ⟨HR3.out.bel, .inl ⟨HD.out, rfl⟩⟩
          · have ht9' : ¬ (t : Int) < 9 := by omega
            have hqb := valZ_bd l (n + 1) 8
            rw [show (2 : Int) ^ 8 = 256 from rfl] at hqb
            obtain ⟨d, hd⟩ : ∃ d : UInt8, UInt8.ofNat (valZ l (n + 1) 8).toNat = d := ⟨_, rfl⟩
            have hdv : valZ l (n + 1) 8 = (d.toNat : Int) := by rw [← hd, UInt8.toNat_ofNat']; omega
            have HD8 := Lib.hid hd
            have HG8 := Lib.hid (fun W (h : RowR w W w.heap.size (.slice a L cap) l (n + 1)) => get_any h 8 (by rw [HLE.out]; omega) (by decide) HLL.out HZ.out)
            simp only [hdv, show ((8 : Nat) : Int) = 8 from rfl] at HG8
            have hdn := d.toNat_lt
            have v8 : IntKind.u8.wrap (d.toNat : Int) = (d.toNat : Int) := wraps_u8 _ (by omega) (by have : (2 : Int) ^ 8 = 256 := rfl; omega)
            have hcb := oftI_bd d
            clear hd hdv hqb
            by_cases hof : 0 ≤ oftI d
            · have hd : R = none := by rw [← HST.out]; exact decS_syn (by rw [HLE.out]; omega) HNF.out (by rw [HLT.out]; omega) (by rw [HY.out]; decide) (by rw [HLT.out]; omega) (by rw [HD8.out]; exact hof)
              have HD := Lib.hid hd
              clear hd
              go_wp2_with (first
            | (go_at_call 44; (with_reducible refine (HG1.out _ HRd.out (by rw [HLE.out]; omega) (by decide) HLL.out HZ.out).mono ?_); rintro e w3 ⟨rfl, hR, hM⟩; have HR3 := Lib.hid hR; have HO3 := Lib.hid (own_mod1 HO.out hM); clear hR hM)
            | (go_at_call 44; (with_reducible refine (HG8.out _ HR3.out).mono ?_); rintro e w6 ⟨rfl, hR, hM⟩; have HR6 := Lib.hid hR; have HO6 := Lib.hid (own_mod1 HO3.out hM); have hw6 : w.heap.size + 1 ≤ w6.heap.size := hR.lt; clear hR hM)
            | (go_at_call 38; (refine (idx_any _ rfl d _).mono ?_); rintro e w7 ⟨rfl, rfl⟩))
              go_ret2
              exact ⟨HR6.out.bel, .inl ⟨HD.out, rfl⟩⟩
            · have HST2 : Hid (decS l f (n + 9) (o ++ [d]) = R) := by show _ = R; rw [← HST.out, decS_other (by rw [HLE.out]; omega) HNF.out (by rw [HLT.out]; omega) (by rw [HY.out]; decide) (by rw [HLT.out]; omega) (by rw [HD8.out]; exact hof), HD8.out]
              have hof' : oftI d < 0 := by omega
              go_wp2_with (first
            | (go_at_call 44; (with_reducible refine (HG1.out _ HRd.out (by rw [HLE.out]; omega) (by decide) HLL.out HZ.out).mono ?_); rintro e w3 ⟨rfl, hR, hM⟩; have HR3 := Lib.hid hR; have HO3 := Lib.hid (own_mod1 HO.out hM); clear hR hM)
            | (go_at_call 44; (with_reducible refine (HG8.out _ HR3.out).mono ?_); rintro e w6 ⟨rfl, hR, hM⟩; have HR6 := Lib.hid hR; have HO6 := Lib.hid (own_mod1 HO3.out hM); have hw6 : w.heap.size + 1 ≤ w6.heap.size := hR.lt; clear hR hM)
            | (go_at_call 38; (refine (idx_any _ rfl d _).mono ?_); rintro e w7 ⟨rfl, rfl⟩)
            | (at_builtin; refine BytesL.wpList_append_byte_sl rfl _ _ rfl (w.heap.size + 1) _ _ rfl (World.ownsRow.alloc HO6.out _) w6.heap.size 1 _ rfl (BytesL.cell_new1 _ _ _) (by rw [intsU_len]; omega) (BytesL.le_alloc _ hw6) ?_; intro g' cp w5 hcp1 hcp2 hg1 hg2 hown1 hB1 hgb; have HO5 := Lib.hid hown1; have HR5 := Lib.hid ((HR6.out.alloc (.cells #[.int .u8 (d.toNat : Int)] 5)).grown hgb (fun k hk => (own_lt HO6.out k hk).1)); obtain ⟨j0, j1, j2, -, -, -⟩ := HR5.out; rw [intsU_len]; rw [intsU_len] at HO5; clear hown1 hB1 hgb))
              go_roundw
              case rel => exact ⟨n + 9, f, t - 9, o ++ [d], _, cp, by rw [List.length_append]; rfl, by go_num, by omega, by rw [List.length_append, List.length_singleton]; omega, by rw [List.length_append, intsU_snoc]; exact HO5.out, HR5.out, HST2.out, by have := HFU.out; omega⟩
              case measure => simp [intOf]; omega
end Go.Proofs.Ytbbhinhledkceaa.CodeC
