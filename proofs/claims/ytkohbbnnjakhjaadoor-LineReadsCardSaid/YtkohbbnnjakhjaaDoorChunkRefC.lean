/-
  The reference's Unchunk over this seat's translation.
  Conditions: none but where the bytes lie.
-/
import Derived.Test.YtkohbbnnjakhjaaDoorChunkRefA
import Derived.Deep.Cut
import Derived.Deep.CutRange
namespace Go.Proofs.YtkohbbnnjakhjaaDoor.ChunkR
open Go.RowKit BA SlicesB ChunkD
set_option linter.unusedVariables false
set_option linter.unusedSimpArgs false

def d1 (z : Int) : Int := if 48 ≤ z ∧ z ≤ 57 then z - 48 else -1
set_option maxRecDepth 100000 in
set_option maxHeartbeats 8000000 in
theorem unchunk_any (a : Option Addr) (cap : Nat) (b : List Int) (w : World) (hb : BytesAt w (.slice a b.length cap) b) (hz : ∀ z ∈ b, 0 ≤ z ∧ z ≤ 255) :
    Calls Tryd.prog 30 #[.slice a b.length cap] w fun e w' => Below w.heap.size w w' ∧
      (((dec b (b.length + 1) 0 []).2.2 = 0 ∧ ∃ a1 c1, e = .returned (.tuple #[.slice a1 (dec b (b.length + 1) 0 []).1.length c1, .int .i64 (dec b (b.length + 1) 0 []).2.1, .int .i64 0]) ∧ BytesL.Own w' w.heap.size (.slice a1 (dec b (b.length + 1) 0 []).1.length c1) (dec b (b.length + 1) 0 []).1) ∨
       ((dec b (b.length + 1) 0 []).2.2 ≠ 0 ∧ e = .returned (.tuple #[.slice none 0 0, .int .i64 0, .int .i64 (dec b (b.length + 1) 0 []).2.2]))) := by
  obtain ⟨a0, c0, e0, hc1, hc2, hnil, _⟩ := hb.open
  simp only [Value.slice.injEq] at e0
  obtain ⟨rfl, _, rfl⟩ := e0
  obtain ⟨R, hR⟩ : ∃ R, dec b (b.length + 1) 0 [] = R := ⟨_, rfl⟩
  rw [hR]
  have HR := Lib.hid hR
  have HBT := Lib.hid hb
  have HZ := Lib.hid hz
  obtain ⟨L, hL⟩ : ∃ L, b.length = L := ⟨_, rfl⟩
  rw [hL] at hc1 ⊢
  have HL := Lib.hid hL
  clear hR hz hb hL hnil
  go_enter Tryd.func30, Tryd.ntmps30
  go_wp2
  go_loopw [5, 6] (fun bv av wr => ∃ (p f : Nat) (body : List Int) (ab : Option Addr) (cb : Nat), av = .int .i64 p ∧ bv = .slice ab body.length cb ∧ Below w.heap.size w wr ∧ Hid (BytesL.Own wr w.heap.size (.slice ab body.length cb) body) ∧ body.length ≤ 8000 ∧ p ≤ 9 * body.length ∧ p ≤ L ∧ Hid (dec b f p body = R ∧ b.length < p + f)) (fun _ av _ => L + 1 - (intOf av).toNat)
  case atStart => exact ⟨0, b.length + 1, [], none, 0, rfl, rfl, Below.refl _ _, BytesL.Own.nil _ _, by simp, by simp, Nat.zero_le _, HR.out, by omega⟩
  case round =>
    obtain ⟨p, f, body, ab, cb, rfl, rfl, hB, HO, hbl, hp9, hpL, HK⟩ := hrel
    have HB := Lib.hid hB
    have hszj := hB.size
    have HBr := Lib.hid (HBT.out.below hB)
    clear hB
    have HRr := Lib.hid HK.out.1
    have HKf := Lib.hid HK.out.2
    obtain ⟨f, rfl⟩ : ∃ f', f = f' + 1 := ⟨f - 1, by have := HKf.out; have := HL.out; omega⟩
    obtain ⟨bl, hbl'⟩ : ∃ bl, body.length = bl := ⟨_, rfl⟩
    obtain ⟨N, hnum⟩ : ∃ r, num b p (8000 - body.length) (b.length + 1) p 0 = r := ⟨_, rfl⟩
    have hNO := num_ok (b := b) (st := p) (most := 8000 - body.length) (by omega) (b.length + 1) p 0 (.inl ⟨rfl, rfl⟩) (Nat.zero_le _) (Nat.le_refl _)
    rw [hnum, hbl', HL.out] at hNO
    have HNO := Lib.hid hNO
    have HBL := Lib.hid hbl'
    have HNUM := Lib.hid hnum
    rw [hbl'] at hbl hp9 HO ⊢
    clear hbl' hnum hNO HK
    go_wp2
    go_loop [7, 8] (fun nv iv => ∃ k n g : Nat, iv = .int .i64 k ∧ nv = .int .i64 n ∧ p ≤ k ∧ k ≤ L ∧ Hid (num b p (8000 - body.length) g k n = N ∧ b.length < k + g ∧ Few p k n) ∧ n + bl ≤ 8000) (fun _ iv => L + 1 - (intOf iv).toNat)
    case atStart => exact ⟨p, 0, b.length + 1, rfl, rfl, Nat.le_refl _, hpL, ⟨HNUM.out, by omega, .inl ⟨rfl, rfl⟩⟩, by omega⟩
    case round =>
      obtain ⟨k, n, g, rfl, rfl, hk, hkL, HK, hn⟩ := hrel
      have hkb : k ≤ p + 4 := by have h := HK.out.2.2; unfold Few at h; omega
      obtain ⟨g, rfl⟩ : ∃ f', g = f' + 1 := ⟨g - 1, by have := HK.out.2.1; have := HL.out; omega⟩
      by_cases h1 : L ≤ k
      · have h1' : ((L : Nat) : Int) ≤ (k : Int) := by omega
        have hN : N = (0, 0, 8) := by
          rw [← HK.out.1]; exact num_short (by rw [HL.out]; exact h1)
        have h := HRr.out
        have hx := HNUM.out
        rw [hN] at hx
        rw [dec_num hx (by decide)] at h
        have HH := Lib.hid h
        clear h hx hN HNUM HRr HK
        go_wp2
        go_ret3
        exact ⟨HB.out, .inr (by rw [← HH.out]; exact ⟨by decide, rfl⟩)⟩
      · obtain ⟨a1, c1, e1, _, _, _, hel⟩ := HBr.out.open
        simp only [Value.slice.injEq] at e1
        obtain ⟨rfl, _, rfl⟩ := e1
        obtain ⟨bb, off, rfl, hbb, hcell⟩ := hel k (by rw [HL.out]; omega)
        have hzz := getD_bd HZ.out k
        obtain ⟨z, hzk⟩ : ∃ z, b.getD k 0 = z := ⟨_, rfl⟩
        rw [hzk] at hcell hzz
        have h1' : (k : Int) < (L : Int) := by omega
        have HZK := Lib.hid hzk
        clear h1 hel hzk
        go_upto_region 8 with fail
        go_cut [28] from 13 to 76 (fun c wx => c = .bool (decide (48 ≤ z ∧ z ≤ 57)) ∧ wx = wr)
        case first =>
          by_cases q1 : 48 ≤ z
          · by_cases q2 : z ≤ 57
            · go_wp2
              go_meet
              exact ⟨congrArg Value.bool (decide_eq_true (by omega)).symm, rfl⟩
            · go_wp2
              go_meet
              exact ⟨congrArg Value.bool (decide_eq_false (by omega)).symm, rfl⟩
          · go_wp2
            go_meet
            exact ⟨congrArg Value.bool (decide_eq_false (by omega)).symm, rfl⟩
        case rest =>
          obtain ⟨rfl, rfl⟩ := hcut
          go_upto_if 28 with fail
          go_cut [9] from 13 to 76 (fun d wx => d = .int .i64 (d1 z) ∧ wx = wc)
          case first =>
            by_cases q1 : 48 ≤ z ∧ z ≤ 57
            · have hb : decide (48 ≤ z ∧ z ≤ 57) = true := decide_eq_true q1
              have hd : d1 z = z - 48 := by unfold d1; rw [if_pos q1]
              go_wp2
              go_meet
              exact ⟨by rw [hd], rfl⟩
            · have hb : decide (48 ≤ z ∧ z ≤ 57) = false := decide_eq_false q1
              have hd : d1 z = -1 := by unfold d1; rw [if_neg q1]
              go_wp2
              go_meet
              exact ⟨by rw [hd], rfl⟩
          case rest =>
            obtain ⟨rfl, rfl⟩ := hcut
            go_upto_region 10 with fail
            go_cut [46] from 13 to 76 (fun c wx => c = .bool (decide (97 ≤ z ∧ z ≤ 102)) ∧ wx = wc)
            case first =>
              by_cases q1 : 97 ≤ z
              · by_cases q2 : z ≤ 102
                · go_wp2
                  go_meet
                  exact ⟨congrArg Value.bool (decide_eq_true (by omega)).symm, rfl⟩
                · go_wp2
                  go_meet
                  exact ⟨congrArg Value.bool (decide_eq_false (by omega)).symm, rfl⟩
              · go_wp2
                go_meet
                exact ⟨congrArg Value.bool (decide_eq_false (by omega)).symm, rfl⟩
            case rest =>
              obtain ⟨rfl, rfl⟩ := hcut
              go_upto_if 46 with fail
              go_cut [9] from 13 to 76 (fun d wx => d = .int .i64 (dg z) ∧ wx = wc)
              case first =>
                by_cases q1 : 97 ≤ z ∧ z ≤ 102
                · have hb : decide (97 ≤ z ∧ z ≤ 102) = true := decide_eq_true q1
                  have hd : dg z = z - 87 := by unfold dg; rw [if_neg (by omega), if_pos q1]
                  go_wp2
                  go_meet
                  exact ⟨by rw [hd], rfl⟩
                · have hb : decide (97 ≤ z ∧ z ≤ 102) = false := decide_eq_false q1
                  have hd : dg z = d1 z := by
                    unfold dg d1
                    by_cases q2 : 48 ≤ z ∧ z ≤ 57
                    · rw [if_pos q2, if_pos q2]
                    · rw [if_neg q2, if_neg q2, if_neg q1]
                  go_wp2
                  go_meet
                  exact ⟨by rw [hd], rfl⟩
              case rest =>
                obtain ⟨rfl, rfl⟩ := hcut
                have hd1' := dg_ge z
                have hd2' := dg_le z
                obtain ⟨d, hd⟩ : ∃ d, dg z = d := ⟨_, rfl⟩
                rw [hd] at hd1' hd2' ⊢
                have HD := Lib.hid hd
                clear hd
                by_cases hd0 : d < 0
                · by_cases hkp : k = p
                  · subst hkp
                    have hN : N = (0, 0, 2) := by
                      rw [← HK.out.1]; exact num_syn1 (by rw [HL.out]; omega) (by rw [HZK.out, HD.out]; exact hd0) rfl
                    have hx := HNUM.out
                    rw [hN] at hx
                    have h := HRr.out
                    rw [dec_num hx (by decide)] at h
                    have HH := Lib.hid h
                    clear h hx hN HNUM HRr HK HBT
                    go_wp2
                    go_ret3
                    exact ⟨HB.out, .inr (by rw [← HH.out]; exact ⟨by decide, rfl⟩)⟩
                  · have hkp' : ¬ (k : Int) = (p : Int) := by omega
                    have hN : N = (n, k, 0) := by
                      rw [← HK.out.1]; exact num_end (by rw [HL.out]; omega) (by rw [HZK.out, HD.out]; exact hd0) hkp
                    have hx := HNUM.out
                    rw [hN] at hx
                    have HNUM2 := Lib.hid hx
                    have hNO := HNO.out (by rw [hN])
                    rw [hN] at hNO
                    simp only at hNO
                    obtain ⟨⟨m, e1⟩, hmt⟩ : ∃ r, mt b [13, 10] k = r := ⟨_, rfl⟩
                    have hM := fun w1 (hB1 : Below w.heap.size w w1) => rmatch_any (some ⟨bb, off, none⟩) cap k b w1 (HBT.out.below hB1) (by omega)
                    rw [hmt, HL.out] at hM
                    have HM := Lib.hid hM
                    have HRr' := HRr.out
                    clear hx hN HNUM HNO HRr HK hM HD HZK hcell hzz hd1' hd2'
                    by_cases he1 : e1 = 0
                    · subst he1
                      have hmok := mt_ok (b := b) [13, 10] k (by rw [hmt])
                      rw [hmt, HL.out] at hmok
                      have hmL : k + 2 ≤ L := hmok.2 (by simp)
                      have hmq : m = k + 2 := hmok.1
                      subst hmq
                      clear hmok
                      have HMT := Lib.hid hmt
                      clear hmt
                      by_cases hfit : k + 2 + n ≤ L
                      · obtain ⟨⟨m2, e2⟩, hmt2⟩ : ∃ r, mt b [13, 10] (k + 2 + n) = r := ⟨_, rfl⟩
                        have hM3 := fun w1 (hB1 : Below w.heap.size w w1) => rmatch_any (some ⟨bb, off, none⟩) cap (k + 2 + n) b w1 (HBT.out.below hB1) (by omega)
                        have hcast2 : ((k + 2 + n : Nat) : Int) = (k : Int) + 2 + (n : Int) := by omega
                        rw [hmt2, HL.out, hcast2] at hM3
                        have HM3 := Lib.hid hM3
                        have HMT2 := Lib.hid hmt2
                        have HM2L : Hid (e2 = 0 → m2 = k + 2 + n + 2 ∧ m2 ≤ L) := fun he => by
                          have hk := mt_ok (b := b) [13, 10] (k + 2 + n) (by rw [hmt2]; exact he)
                          rw [hmt2, HL.out] at hk
                          have h1 : m2 = k + 2 + n + 2 := hk.1
                          have h2 : k + 2 + n + 2 ≤ L := hk.2 (by simp)
                          exact ⟨h1, by omega⟩
                        have hf1 : ¬ ((L : Int) - ((k : Int) + 2) < (n : Int)) := by omega
                        have hi1 : (k : Int) + 2 ≤ (k : Int) + 2 + (n : Int) := by omega
                        have hi2 : (k : Int) + 2 + (n : Int) ≤ (cap : Int) := by omega
                        have hle : body.length + ((b.drop (k + 2)).take n).length < 140737488355328 := by rw [HBL.out, List.length_take]; omega
                        have HLE := Lib.hid hle
                        obtain ⟨B2, hBE⟩ : ∃ B2, body ++ (b.drop (k + 2)).take n = B2 := ⟨_, rfl⟩
                        have HBL2 : Hid (B2.length = bl + n) := (by show B2.length = bl + n; rw [← hBE, List.length_append, HBL.out, List.length_take, List.length_drop, HL.out, Nat.min_eq_left (by omega)])
                        have HBE := Lib.hid hBE
                        have HOW := Lib.hid (fun w1 (hB1 : Below wc.heap.size wc w1) => own_below HO.out hB1)
                        clear hmt2 hM3 hcast2 hle hBE HO
                        by_cases hcap : cap = k + 2
                        · obtain rfl : n = 0 := by omega
                          subst hcap
                          have HY := Lib.hid (fun w1 (hB1 : Below w.heap.size w w1) => (show BytesAt w1 (.slice (some ⟨bb, off, none⟩) 0 (k + 2 - (k + 2))) ((b.drop (k + 2)).take 0) by
                            rw [Nat.sub_self, List.take_zero]
                            exact ⟨some ⟨bb, off, none⟩, 0, rfl, by simp [BytesL.valB], by simp, by simp, by simp [BytesL.valB]⟩))
                          have he2 : e2 ≠ 0 := fun he => by have := HM2L.out he; omega
                          clear HBT
                          have hm3z := HM3.out
                          rw [show ((k : Int) + 2 + ((0 : Nat) : Int)) = (k : Int) + 2 by omega] at hm3z
                          have hi3 : (k : Int) + 2 ≤ ((k + 2 : Nat) : Int) := by omega
                          have hf3 : ¬ ((L : Int) - ((k : Int) + 2) < 0) := by omega
                          rw [dec_mt2 HNUM2.out HMT.out HMT2.out he2] at HRr'
                          have HH := Lib.hid HRr'
                          have HE := Lib.hid he2
                          have hx2 : ¬ (e2 : Int) = 0 := by omega
                          clear HRr' he2
                          go_wp2_with (first
                            | (go_at_call 37; (with_reducible refine (HM.out _ HB.out).mono ?_); rintro e w1 ⟨hB1, rfl⟩; have hsz1 := hB1.size; have HYY := Lib.hid (HY.out w1 (HB.out.trans (hB1.mono hszj))); have HOw := Lib.hid (HOW.out w1 hB1))
                            | (at_builtin; refine wpList_append_bytes rfl _ _ rfl w.heap.size _ _ rfl HOw.out _ _ rfl HYY.out HLE.out (by omega) ?_; intro v2 w2 hown2 hB2 hg2 hat2; clear hg2 hat2; have hBall := (HB.out.trans (hB1.mono hszj)).trans hB2; have hsz2 := hB2.size; have HO3 : Hid (BytesL.Own w2 w.heap.size v2 B2) := (by have h := hown2; rw [HBE.out] at h; exact h); clear hown2; obtain ⟨a4, c4, rfl⟩ := ChunkD.row_form HO3.out)
                            | (go_at_call 37; (with_reducible refine (hm3z _ hBall).mono ?_); rintro e w3 ⟨hB3, rfl⟩))
                          go_ret3
                          exact ⟨hBall.trans (hB3.mono (by omega)), .inr (by rw [← HH.out]; exact ⟨HE.out, rfl⟩)⟩
                        · have hcl : ¬ (cap ≤ k + 2) := by omega
                          have HY := Lib.hid (fun w1 (hB1 : Below w.heap.size w w1) => bytesAt_take (bytesAt_drop (by have h := HBT.out.below hB1; rw [HL.out] at h; exact (show BytesAt w1 (.slice (some ⟨bb, off, none⟩) L cap) b from h)) (k + 2) (by rw [HL.out]; omega)) n (by rw [List.length_drop, HL.out]; omega))
                          have HY2 := Lib.hid (fun w1 (hB1 : Below w.heap.size w w1) => (show BytesAt w1 (.slice (some ⟨bb, off + (k + 2), none⟩) (k + 2 + n - (k + 2)) (cap - (k + 2))) ((b.drop (k + 2)).take n) by rw [Nat.add_sub_cancel_left]; exact HY.out w1 hB1))
                          have hm3z := HM3.out
                          clear HBT
                          by_cases he2 : e2 = 0
                          · subst he2
                            have hk := HM2L.out rfl
                            have HKK := Lib.hid hk
                            by_cases hn0 : n = 0
                            · subst hn0
                              rw [show ((k : Int) + 2 + ((0 : Nat) : Int)) = (k : Int) + 2 by omega] at hm3z
                              have hi3 : (k : Int) + 2 ≤ (cap : Int) := by omega
                              have hf3 : ¬ ((L : Int) - ((k : Int) + 2) < 0) := by omega
                              obtain rfl : B2 = body := by have h := HBE.out; rw [List.take_zero, List.append_nil] at h; exact h.symm
                              rw [dec_end HNUM2.out HMT.out HMT2.out] at HRr'
                              have HH := Lib.hid HRr'
                              clear HRr' hk
                              go_wp2_with (first
                                | (go_at_call 37; (with_reducible refine (HM.out _ HB.out).mono ?_); rintro e w1 ⟨hB1, rfl⟩; have hsz1 := hB1.size; have HYY := Lib.hid (HY.out w1 (HB.out.trans (hB1.mono hszj))); have HOw := Lib.hid (HOW.out w1 hB1))
                                | (at_builtin; refine wpList_append_bytes rfl _ _ rfl w.heap.size _ _ rfl HOw.out _ _ rfl HYY.out HLE.out (by omega) ?_; intro v2 w2 hown2 hB2 hg2 hat2; clear hg2 hat2; have hBall := (HB.out.trans (hB1.mono hszj)).trans hB2; have hsz2 := hB2.size; have HO3 : Hid (BytesL.Own w2 w.heap.size v2 B2) := (by have h := hown2; rw [HBE.out] at h; exact h); clear hown2; obtain ⟨a4, c4, rfl⟩ := ChunkD.row_form HO3.out)
                                | (go_at_call 37; (with_reducible refine (hm3z _ hBall).mono ?_); rintro e w3 ⟨hB3, rfl⟩))
                              go_ret3
                              exact ⟨hBall.trans (hB3.mono (by omega)), .inl (by rw [← HH.out]; exact ⟨rfl, a4, c4, rfl, own_below HO3.out hB3⟩)⟩
                            · have hn1 : ¬ ((n : Int) = 0) := by omega
                              rw [dec_step HNUM2.out HMT.out HMT2.out hn0, HBE.out] at HRr'
                              have HH := Lib.hid HRr'
                              clear HRr' hk
                              go_wp2_with (first
                                | (go_at_call 37; (with_reducible refine (HM.out _ HB.out).mono ?_); rintro e w1 ⟨hB1, rfl⟩; have hsz1 := hB1.size; have HYY := Lib.hid (HY2.out w1 (HB.out.trans (hB1.mono hszj))); have HOw := Lib.hid (HOW.out w1 hB1))
                                | (at_builtin; refine wpList_append_bytes rfl _ _ rfl w.heap.size _ _ rfl HOw.out _ _ rfl HYY.out HLE.out (by omega) ?_; intro v2 w2 hown2 hB2 hg2 hat2; clear hg2 hat2; have hBall := (HB.out.trans (hB1.mono hszj)).trans hB2; have hsz2 := hB2.size; have HO3 : Hid (BytesL.Own w2 w.heap.size v2 B2) := (by have h := hown2; rw [HBE.out] at h; exact h); clear hown2; obtain ⟨a4, c4, rfl⟩ := ChunkD.row_form HO3.out)
                                | (go_at_call 37; (with_reducible refine (hm3z _ hBall).mono ?_); rintro e w3 ⟨hB3, rfl⟩))
                              have hk := HKK.out
                              have hk2 := HBL2.out
                              go_roundw
                              case rel => exact ⟨m2, f, B2, a4, c4, rfl, rfl, hBall.trans (hB3.mono (by omega)), own_below HO3.out hB3, by omega, by omega, by omega, HH.out, by have := HKf.out; omega⟩
                              case measure => simp [intOf]; omega
                          · rw [dec_mt2 HNUM2.out HMT.out HMT2.out he2] at HRr'
                            have HH := Lib.hid HRr'
                            have HE := Lib.hid he2
                            have hx2 : ¬ (e2 : Int) = 0 := by omega
                            clear HRr' he2
                            go_wp2_with (first
                              | (go_at_call 37; (with_reducible refine (HM.out _ HB.out).mono ?_); rintro e w1 ⟨hB1, rfl⟩; have hsz1 := hB1.size; have HYY := Lib.hid (HY2.out w1 (HB.out.trans (hB1.mono hszj))); have HOw := Lib.hid (HOW.out w1 hB1))
                              | (at_builtin; refine wpList_append_bytes rfl _ _ rfl w.heap.size _ _ rfl HOw.out _ _ rfl HYY.out HLE.out (by omega) ?_; intro v2 w2 hown2 hB2 hg2 hat2; clear hg2 hat2; have hBall := (HB.out.trans (hB1.mono hszj)).trans hB2; have hsz2 := hB2.size; have HO3 : Hid (BytesL.Own w2 w.heap.size v2 B2) := (by have h := hown2; rw [HBE.out] at h; exact h); clear hown2; obtain ⟨a4, c4, rfl⟩ := ChunkD.row_form HO3.out)
                              | (go_at_call 37; (with_reducible refine (hm3z _ hBall).mono ?_); rintro e w3 ⟨hB3, rfl⟩))
                            go_ret3
                            exact ⟨hBall.trans (hB3.mono (by omega)), .inr (by rw [← HH.out]; exact ⟨HE.out, rfl⟩)⟩
                      · have hf1 : (L : Int) - ((k : Int) + 2) < (n : Int) := by omega
                        rw [dec_mt2 HNUM2.out HMT.out (mt_short (by rw [HL.out]; omega)) (by decide)] at HRr'
                        have HH := Lib.hid HRr'
                        clear HRr' HBT
                        go_wp2_with (go_at_call 37; (with_reducible refine (HM.out _ HB.out).mono ?_); rintro e w1 ⟨hB1, rfl⟩)
                        go_ret3
                        exact ⟨HB.out.trans (hB1.mono hszj), .inr (by rw [← HH.out]; exact ⟨by decide, rfl⟩)⟩
                    · rw [dec_mt HNUM2.out hmt he1] at HRr'
                      have HH := Lib.hid HRr'
                      have HE := Lib.hid he1
                      have hx2 : ¬ (e1 : Int) = 0 := by omega
                      clear hmt HRr' he1 HBT
                      go_wp2_with (go_at_call 37; (with_reducible refine (HM.out _ HB.out).mono ?_); rintro e w1 ⟨hB1, rfl⟩)
                      go_ret3
                      exact ⟨HB.out.trans (hB1.mono hszj), .inr (by rw [← HH.out]; exact ⟨HE.out, rfl⟩)⟩
                · obtain ⟨dn, rfl⟩ : ∃ dn : Nat, d = dn := ⟨d.toNat, by omega⟩
                  have e1 : dg (b.getD k 0) = dn := by rw [HZK.out, HD.out]
                  have HB2 : Hid (k < b.length) := (by show k < b.length; rw [HL.out]; omega)
                  have hd0' : ¬ (dn : Int) < 0 := by omega
                  have hmst : 8000 - body.length = 8000 - bl := by rw [HBL.out]
                  clear hcell hzz hd1' HBT HBr HNO
                  by_cases h3 : k = p + 1 ∧ n = 0
                  · obtain ⟨rfl, rfl⟩ := h3
                    have hN : N = (0, 0, 2) := by
                      rw [← HK.out.1]; exact num_syn2 HB2.out (by rw [e1]; omega) ⟨rfl, rfl⟩
                    have hx := HNUM.out
                    rw [hN] at hx
                    have h := HRr.out
                    rw [dec_num hx (by decide)] at h
                    have HH := Lib.hid h
                    clear h hx hN HNUM HRr HK e1
                    go_wp2
                    go_ret3
                    exact ⟨HB.out, .inr (by rw [← HH.out]; exact ⟨by decide, rfl⟩)⟩
                  · have HN : Hid (¬ (k = p + 1 ∧ n = 0)) := h3
                    have hcase : ¬ ((k : Int) = (p : Int) + 1) ∨ ((k : Int) = (p : Int) + 1 ∧ ¬ ((n : Int) = 0)) := by omega
                    clear h3
                    by_cases h5 : 8000 - bl < 16 * n + dn
                    · have h5' : (8000 : Int) < (bl : Int) + ((n : Int) * 16 + (dn : Int)) := by omega
                      have hN : N = (0, 0, 4) := by
                        rw [← HK.out.1]; exact num_full HB2.out (by rw [e1]; omega) HN.out (by rw [e1, Int.toNat_natCast, hmst]; exact h5)
                      have hx := HNUM.out
                      rw [hN] at hx
                      have h := HRr.out
                      rw [dec_num hx (by decide)] at h
                      have HH := Lib.hid h
                      clear h hx hN HNUM HRr HK e1 h5
                      rcases hcase with hq | ⟨hq, hn0⟩
                      · go_wp2
                        go_ret3
                        exact ⟨HB.out, .inr (by rw [← HH.out]; exact ⟨by decide, rfl⟩)⟩
                      · obtain rfl : k = p + 1 := by omega
                        go_wp2
                        go_ret3
                        exact ⟨HB.out, .inr (by rw [← HH.out]; exact ⟨by decide, rfl⟩)⟩
                    · have h5' : ¬ (8000 : Int) < (bl : Int) + ((n : Int) * 16 + (dn : Int)) := by omega
                      have h := HK.out.1
                      rw [num_step HB2.out (by rw [e1]; omega) HN.out (by rw [e1, Int.toNat_natCast, hmst]; exact h5), e1, Int.toNat_natCast] at h
                      have HH := Lib.hid h
                      have HFW := Lib.hid (HK.out.2.2.step (d := dn) (most := 8000) (by omega) HN.out (by omega))
                      clear h e1 HRr
                      rcases hcase with hq | ⟨hq, hn0⟩
                      · go_wp2
                        go_round
                        case rel => exact ⟨k + 1, 16 * n + dn, g, by go_num, by go_num, by omega, by omega, ⟨HH.out, by have := HK.out.2.1; omega, HFW.out⟩, by omega⟩
                        case measure => simp [intOf]; omega
                      · obtain rfl : k = p + 1 := by omega
                        go_wp2
                        go_round
                        case rel => exact ⟨p + 1 + 1, 16 * n + dn, g, by go_num, by go_num, by omega, by omega, ⟨HH.out, by have := HK.out.2.1; omega, HFW.out⟩, by omega⟩
                        case measure => simp [intOf]; omega
end Go.Proofs.YtkohbbnnjakhjaaDoor.ChunkR
