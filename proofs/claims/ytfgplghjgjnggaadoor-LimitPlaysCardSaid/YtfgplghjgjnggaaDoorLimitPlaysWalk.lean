/-
  The walk of the law LimitPlays: for all rates, bursts and steps it returns true and writes nothing that was there.
  Conditions: errors.errorType starts as the program's text lays it.
-/
import Derived.Test.YtfgplghjgjnggaaDoorArgs
import Derived.Test.YtfgplghjgjnggaaDoorLimSteps
import Derived.Test.YtfgplghjgjnggaaDoorLimitKeys
import Derived.Deep.CutBlock
import Derived.Sort.Walk0
import Derived.Lib.Hide
namespace Go.Proofs.YtfgplghjgjnggaaDoor.WalkLimitPlays
open Go.RowKit MapsL ModL LimitC LimR LimS
set_option linter.unusedVariables false
set_option linter.unusedSimpArgs false

theorem newV {B V0 V P MA MS Q : Nat} {rate burst : Int} {W W' : World} {l r : List Ent} {v : Value} (h : St B V0 P MA MS Q rate burst W l r v) (hB : Below W.heap.size W W') (hV : V = W.heap.size) (hlt : V < W'.heap.size) : St B V P MA MS Q rate burst W' l r v := by
  have hp := h.lim.lt
  have hq := h.ref.lt
  subst hV
  refine ⟨h.lim.below hB, h.ref.below hB, fun g hg => ?_, ⟨h.fq.1, h.fq.2.1, h.fq.2.2.1, by omega, by omega, by omega, by omega, fun e he => ?_⟩, h.low, hlt, h.len⟩
  · have := (h.ref.own.lt g hg).2
    exact ⟨(h.fo g hg).1, (h.fo g hg).2.1, (h.fo g hg).2.2.1, by omega, (h.fo g hg).2.2.2.2⟩
  · have := (h.lim.ents e he).lt
    exact ⟨(h.fq.2.2.2.2.2.2.2 e he).1, by omega⟩
/-- The keys, one behind the other, rise. -/
theorem rising {ss : List (List UInt8)} {l : List Ent} (hp : ss.Perm (l.map (·.key))) (hU : l.Pairwise fun x y => x.key ≠ y.key) (i : Nat) (x y : List UInt8) (hx : (ss.mergeSort (fun x y => decide (x ≤ y)))[i]? = some x) (hy : (ss.mergeSort (fun x y => decide (x ≤ y)))[i + 1]? = some y) : x < y := by
  have tr : ∀ a b c : List UInt8, (decide (a ≤ b)) = true → (decide (b ≤ c)) = true → (decide (a ≤ c)) = true := fun a b c h1 h2 => by simp only [decide_eq_true_eq] at *; exact List.le_trans h1 h2
  have tot : ∀ a b : List UInt8, (decide (a ≤ b) || decide (b ≤ a)) = true := fun a b => by simp only [Bool.or_eq_true, decide_eq_true_eq]; exact List.le_total a b
  have hs := List.pairwise_mergeSort (le := fun x y : List UInt8 => decide (x ≤ y)) tr tot ss
  have hnd : (ss.mergeSort (fun x y => decide (x ≤ y))).Nodup := by
    refine ((List.mergeSort_perm ss _).trans hp).nodup_iff.2 ?_
    exact List.pairwise_map.2 hU
  obtain ⟨hi, rfl⟩ := List.getElem?_eq_some_iff.1 hx
  obtain ⟨hj, rfl⟩ := List.getElem?_eq_some_iff.1 hy
  have h1 := List.pairwise_iff_getElem.1 hs i (i + 1) hi hj (Nat.lt_succ_self i)
  have h2 := List.pairwise_iff_getElem.1 hnd i (i + 1) hi hj (Nat.lt_succ_self i)
  simp only [decide_eq_true_eq] at h1
  by_cases h : (ss.mergeSort (fun x y => decide (x ≤ y)))[i] < (ss.mergeSort (fun x y => decide (x ≤ y)))[i + 1]
  · exact h
  · exact absurd (List.le_antisymm h1 (List.not_lt.1 h)) h2
/-- What came back: the keys, one behind the other, rise. -/
theorem keys_row {w : World} {B : Nat} {v : Value} {ss : List (List UInt8)} {l : List Ent} (hrow : w.ownsRow B 9 1 v ss.length ((ss.mergeSort (fun x y => decide (x ≤ y))).map encStr)) (hp : ss.Perm (l.map (·.key))) (hU : l.Pairwise fun x y => x.key ≠ y.key) :
    ∃ a c, v = .slice a l.length c ∧ ∀ i, i + 1 < l.length → ∃ g s t, a = some ⟨g, 0, none⟩ ∧ w.cell? ⟨g, i, none⟩ = some (.string s) ∧ w.cell? ⟨g, i + 1, none⟩ = some (.string t) ∧ Op.bytesLess s.toList t.toList = true := by
  have hlen : ss.length = l.length := by rw [hp.length_eq]; simp
  have h0 := hrow
  obtain ⟨_, ⟨rfl, h2⟩ | ⟨g, cap, cur, rfl, h3⟩⟩ := hrow
  · exact ⟨none, 0, by rw [← hlen, h2], fun i hi => by omega⟩
  · refine ⟨some ⟨g, 0, none⟩, cap, by rw [hlen], fun i hi => ?_⟩
    have hml : (ss.mergeSort (fun x y => decide (x ≤ y))).length = ss.length := List.length_mergeSort _
    have c1 := World.ownsRow.cellAt h0 i (by omega)
    have c2 := World.ownsRow.cellAt h0 (i + 1) (by omega)
    have g1 : i < (ss.mergeSort (fun x y => decide (x ≤ y))).length := by omega
    have g2 : i + 1 < (ss.mergeSort (fun x y => decide (x ≤ y))).length := by omega
    rw [List.getElem?_map, List.getElem?_eq_getElem g1] at c1
    rw [List.getElem?_map, List.getElem?_eq_getElem g2] at c2
    refine ⟨g, str (ss.mergeSort (fun x y => decide (x ≤ y)))[i], str (ss.mergeSort (fun x y => decide (x ≤ y)))[i + 1], rfl, c1, c2, ?_⟩
    rw [ByteArray.toList_eq, ByteArray.toList_eq, str_list, str_list, bytesLess_eq]
    exact decide_eq_true (rising hp hU i _ _ (List.getElem?_eq_getElem g1) (List.getElem?_eq_getElem g2))
set_option maxRecDepth 100000 in
set_option maxHeartbeats 8000000 in
theorem walk (rate burst : Int) (v0 : Value) (rows : List (List Int)) (w : World) (hra : Args.I64 rate) (hbu : Args.I64 burst) (hr : Args.IntRowsAt w v0 rows) (hg : w.cell? ⟨2, 0, none⟩ = some (.iface 125 (.agg #[.pointer (some ⟨3, 33, none⟩)]))) :
    Calls Tryd.prog 4 #[.int .i64 rate, .int .i64 burst, v0] w fun e w' => e = .returned (.bool true) ∧ Below w.heap.size w w' := by
  have hglt := block_lt_of_cell hg
  have HGc : Hid (∀ W', Below w.heap.size w W' → W'.cell? ⟨2, 0, none⟩ = some (.iface 125 (.agg #[.pointer (some ⟨3, 33, none⟩)]))) := fun W' hB => (hB.cell (p := ⟨2, 0, none⟩) (block_lt_of_cell hg)).trans hg
  obtain ⟨ra1, ra2⟩ := hra
  obtain ⟨bu1, bu2⟩ := hbu
  obtain ⟨a1, cap, rfl, hcap, hcap2, hel⟩ := hr.open
  have HEL := Lib.hid hel
  clear hel hr hg
  by_cases hgood : 1 ≤ rate ∧ rate ≤ 1000000 ∧ 1 ≤ burst ∧ burst ≤ 1000000
  · obtain ⟨r1, r2, q1, q2⟩ := hgood
    have r1' : ¬ rate < 1 := by omega
    have r2' : ¬ 1000000 < rate := by omega
    have q1' : ¬ burst < 1 := by omega
    have q2' : ¬ 1000000 < burst := by omega
    go_enter Tryd.func4, Tryd.ntmps4
    go_wp2_with (first
      | (go_at_call 17; (with_reducible refine (new_ok rate burst _ ⟨r1, r2⟩ ⟨q1, q2⟩).mono ?_); rintro e w1 ⟨rfl, hp1, hB1, hsz1⟩; have HP1 := Lib.hid (And.intro hp1 (And.intro hB1 hsz1)); clear hp1 hsz1)
      | (go_at_call 6; (with_reducible refine (ToldC.error_any .nil 0 _ (HGc.out _ hB1)).mono ?_); rintro e w2 ⟨rfl, hB2⟩; have HP2 : Hid (IsLimit w2 (w.heap.size + 2) w.heap.size (w.heap.size + 1) rate burst [] ∧ Below w.heap.size w w2 ∧ w.heap.size + 3 ≤ w2.heap.size) := (⟨HP1.out.1.below hB2, hB1.trans (hB2.mono hB1.size), by have h1 := HP1.out.2.2; have h2 := hB2.size; omega⟩); clear hB1 hB2 HP1))
    go_loopw [12] (fun iv wr => ∃ (k : Nat) (V : Nat) (l : List Ent) (v : Value), iv = .int .i64 k ∧ k ≤ rows.length ∧ k ≤ 130 ∧ Below w.heap.size w wr ∧ Hid (St w.heap.size V (w.heap.size + 2) w.heap.size (w.heap.size + 1) w2.heap.size rate burst wr l l v)) (fun iv _ => 130 - (intOf iv).toNat)
    case atStart =>
      obtain ⟨hp2, hB2, hsz2⟩ := HP2.out
      have hs0 : w.heap.size ≤ w2.heap.size := by omega
      have hBa := hB2.alloc hs0 (.cells #[.int .i64 rate, .int .i64 burst, .slice none 0 0] 52)
      have hBb := (Below.refl w2.heap.size w2).alloc (Nat.le_refl _) (.cells #[.int .i64 rate, .int .i64 burst, .slice none 0 0] 52)
      refine ⟨0, 2, [], .slice none 0 0, rfl, Nat.zero_le _, Nat.zero_le _, hBa, ?_⟩
      show St _ _ _ _ _ _ _ _ _ _ _ _
      refine ⟨hp2.below hBb, ⟨by simp, by simp, by simp, by simp, RowsK.Own.nil _ _ _ _⟩, (fun g hg => by cases hg), ⟨by omega, by omega, by omega, by omega, by omega, by omega, by omega, (fun e he => by cases he)⟩, ⟨by omega, by omega, by omega, by omega, (fun e he => by cases he)⟩, by simp; omega, by simp, by simp⟩
    case round =>
      obtain ⟨k, V0, l, v, rfl, hk1, hk2, hB, HS⟩ := hrel
      by_cases hin : k < rows.length ∧ k < 130
      · obtain ⟨h1, h2⟩ := hin
        obtain ⟨b, off, x, rfl, hb, hv, hx⟩ := HEL.out k h1
        obtain ⟨ax, capx, rfl, hcx, hcx2, helx⟩ := hx.open
        have HX := Lib.hid helx
        have hI := Lib.hid hx.2
        clear helx hx
        have hv' := (hB.cell (p := ⟨b, off + k, none⟩) hb).trans hv
        generalize rows.getD k [] = r at *
        clear hv
        have hszr := hB.size
        obtain ⟨wo, rfl⟩ : ∃ wo : World, wo = wr := ⟨_, rfl⟩
        go_upto_block 2 with fail
        go_cut [14] from 64 to 189 (fun _ wc => Below wo.heap.size wo wc ∧ wo.heap.size < wc.heap.size ∧ wc.cell? ⟨wo.heap.size, 0, none⟩ = some (.int .i64 (r.getD 0 0)) ∧ wc.cell? ⟨wo.heap.size, 1, none⟩ = some (.int .i64 (r.getD 1 0)) ∧ wc.cell? ⟨wo.heap.size, 2, none⟩ = some (.int .i64 (r.getD 2 0)) ∧ wc.cell? ⟨wo.heap.size, 3, none⟩ = some (.int .i64 (r.getD 3 0)))
        case first =>
          go_wp2_with fail
          go_loopw [14] (fun jv wi => ∃ (j : Nat), jv = .int .i64 j ∧ j ≤ r.length ∧ j ≤ 4 ∧ Below wo.heap.size wo wi ∧ wo.heap.size < wi.heap.size ∧ Hid (∀ t, t < 4 → wi.frozen? ⟨wo.heap.size, t, none⟩ = false ∧ wi.cell? ⟨wo.heap.size, t, none⟩ = some (.int .i64 (Args.cp r j t)))) (fun jv _ => 4 - (intOf jv).toNat)
          case atStart => exact ⟨0, rfl, by omega, by omega, (Below.refl _ _).alloc (Nat.le_refl _) _, by simp, by intro t ht; rcases t with _ | _ | _ | _ | t <;> first | (simp [Args.cp]; done) | omega⟩
          case round =>
            obtain ⟨j, rfl, hj1, hj2, hBi, hsi, HD⟩ := hrel
            have hv2 := (hBi.cell (p := ⟨b, off + k, none⟩) (by simp only; omega)).trans hv'
            by_cases hj : j < r.length ∧ j < 4
            · obtain ⟨g1, g2⟩ := hj
              obtain ⟨bx, ox, rfl, hbx, hvx, hix⟩ := HX.out j g1
              have hvx2 := (hBi.cell (p := ⟨bx, ox + j, none⟩) (by simp only; omega)).trans ((hB.cell (p := ⟨bx, ox + j, none⟩) hbx).trans hvx)
              clear hix hvx
              obtain ⟨hfj, hcj⟩ := HD.out j g2
              obtain ⟨vj, hvj⟩ : ∃ vj, r.getD j 0 = vj := ⟨_, rfl⟩
              rw [hvj] at hvx2
              have HVJ := Lib.hid hvj
              clear hvj
              go_wp2
              go_roundw
              case rel => exact ⟨j + 1, by go_num, by omega, by omega, hBi.setCell (Nat.le_refl _) _, by simp; omega, fun t ht => by
                obtain ⟨f1, c1⟩ := HD.out t ht
                by_cases e : t = j
                · subst e; exact ⟨by simp [go_sem, f1], by rw [World.cell?_setCell_same _ _ _ hcj, Args.cp_step, if_pos rfl, HVJ.out]⟩
                · exact ⟨by simp [go_sem, f1], by rw [World.cell?_setCell_other _ _ _ _ (by simp <;> omega), c1, Args.cp_step, if_neg e]⟩⟩
              case measure => simp [intOf]; omega
            · have d0 := (HD.out 0 (by omega)).2
              have d1 := (HD.out 1 (by omega)).2
              have d2 := (HD.out 2 (by omega)).2
              have d3 := (HD.out 3 (by omega)).2
              rw [Args.cp_full _ _ _ (by omega)] at d0 d1 d2 d3
              have D := Lib.hid (And.intro d0 (And.intro d1 (And.intro d2 d3)))
              clear d0 d1 d2 d3
              go_wp2
              all_goals go_meet
              all_goals exact ⟨hBi, hsi, D.out.1, D.out.2.1, D.out.2.2.1, D.out.2.2.2⟩
        case rest =>
          obtain ⟨hBi, hsi, d0, d1, d2, d3⟩ := hcut
          have b1 := Args.getD_i64 hI.out 1
          generalize r.getD 0 0 = op at *
          generalize r.getD 1 0 = x at *
          generalize r.getD 2 0 = y at *
          generalize r.getD 3 0 = z at *
          have BX := Lib.hid (show -9223372036854775808 ≤ x ∧ x ≤ 9223372036854775807 from b1)
          have HSV := Lib.hid (newV HS.out hBi rfl hsi)
          have HBW := Lib.hid (hB.trans (hBi.mono hszr))
          have hszw := HBW.out.size
          have hVl := (newV HS.out hBi rfl hsi).vlt
          clear hv' hB hBi HS
          by_cases hop : op < 2
          · go_wp2_with (first
              | (go_at_call 18; (with_reducible refine (key_any x BX.out _).mono ?_); rintro e w3 ⟨⟨ks, rfl, hks⟩, rfl⟩; obtain ⟨ok, kk, er, hE, Mid, hA1, hA2⟩ := ask_step (B := w.heap.size) (V := wo.heap.size) (P := w.heap.size + 2) (MA := w.heap.size) (MS := w.heap.size + 1) (Q := w2.heap.size) (rate := rate) (burst := burst) (l := l) (v := v) ks y z hks ⟨r1, r2⟩ ⟨q1, q2⟩; have HE := Lib.hid hE; have HA1 := Lib.hid hA1; have HA2 := Lib.hid hA2; clear hE hA1 hA2)
              | (go_at_call 19; (with_reducible refine (HA1.out _ HSV.out hszw).mono ?_); rintro e W2 ⟨rfl, hMid, hK2, hs2⟩; have e2 := (hK2.2 2).trans d2; have e3 := (hK2.2 3).trans d3; have HM2 := Lib.hid hMid; have HB2 := Lib.hid (HBW.out.trans hK2.1); clear hMid hK2)
              | (go_at_call 20; (with_reducible refine (HA2.out _ HM2.out hs2).mono ?_); rintro e W3 ⟨rfl, hS3, hK3, hs3⟩; have HS3 := Lib.hid hS3; have HB3 := Lib.hid (HB2.out.trans hK3.1); clear hS3 hK3)
              | (go_at_call 6; (with_reducible refine (ToldC.error_any HE.out kk _ (HGc.out _ HB3.out)).mono ?_); rintro e W4 ⟨rfl, hB4⟩; obtain ⟨l3, v3, hS3⟩ := HS3.out; have HS4 := Lib.hid (hS3.below hB4); have HB4 := Lib.hid (HB3.out.trans (hB4.mono hs3)); clear hS3 hB4))
            go_roundw
            case rel => exact ⟨k + 1, wo.heap.size, l3, v3, by go_num, by omega, by omega, HB4.out, HS4.out⟩
            case measure => simp [intOf]; omega
          · go_wp2_with (first
              | (go_at_call 18; (with_reducible refine (key_any x BX.out _).mono ?_); rintro e w3 ⟨⟨ks, rfl, hks⟩, rfl⟩; obtain ⟨la, lb, kk, er, hE, Mid, hA1, hA2⟩ := left_step (B := w.heap.size) (V := wo.heap.size) (P := w.heap.size + 2) (MA := w.heap.size) (MS := w.heap.size + 1) (Q := w2.heap.size) (rate := rate) (burst := burst) (l := l) (v := v) ks y hks ⟨r1, r2⟩ ⟨q1, q2⟩; have HE := Lib.hid hE; have HA1 := Lib.hid hA1; have HA2 := Lib.hid hA2; clear hE hA1 hA2)
              | (go_at_call 21; (with_reducible refine (HA1.out _ HSV.out hszw).mono ?_); rintro e W2 ⟨rfl, hMid, hK2, hs2⟩; have e2 := (hK2.2 2).trans d2; have e3 := (hK2.2 3).trans d3; have HM2 := Lib.hid hMid; have HB2 := Lib.hid (HBW.out.trans hK2.1); clear hMid hK2)
              | (go_at_call 22; (with_reducible refine (HA2.out _ HM2.out hs2).mono ?_); rintro e W3 ⟨rfl, hS3, hK3, hs3⟩; have e4 := (hK3.2 2).trans e2; have e5 := (hK3.2 3).trans e3; have HS3 := Lib.hid hS3; have HB3 := Lib.hid (HB2.out.trans hK3.1); clear hS3 hK3)
              | (go_at_call 6; (with_reducible refine (ToldC.error_any HE.out kk _ (HGc.out _ HB3.out)).mono ?_); rintro e W4 ⟨rfl, hB4⟩; obtain ⟨l3, v3, hS3⟩ := HS3.out; have e6 := (hB4.cell (p := ⟨wo.heap.size, 2, none⟩) hS3.vlt).trans e4; have e7 := (hB4.cell (p := ⟨wo.heap.size, 3, none⟩) hS3.vlt).trans e5; have HS4 := Lib.hid (hS3.below hB4); have HB4 := Lib.hid (HB3.out.trans (hB4.mono hs3)); have hs4 := HB4.out.size; clear hS3 hB4; obtain ⟨ma, mb, km, em, hEm, Mid2, hW1, hW2⟩ := wait_step (B := w.heap.size) (V := wo.heap.size) (P := w.heap.size + 2) (MA := w.heap.size) (MS := w.heap.size + 1) (Q := w2.heap.size) (rate := rate) (burst := burst) (l := l3) (v := v3) ks y z hks ⟨r1, r2⟩ ⟨q1, q2⟩; have HEm := Lib.hid hEm; have HW1 := Lib.hid hW1; have HW2 := Lib.hid hW2; clear hEm hW1 hW2)
              | (go_at_call 21; (with_reducible refine (HW1.out _ HS4.out hs4).mono ?_); rintro e W5 ⟨rfl, hMid5, hK5, hs5⟩; have e8 := (hK5.2 2).trans e6; have e9 := (hK5.2 3).trans e7; have HM5 := Lib.hid hMid5; have HB5 := Lib.hid (HB4.out.trans hK5.1); clear hMid5 hK5)
              | (go_at_call 23; (with_reducible refine (HW2.out _ HM5.out hs5).mono ?_); rintro e W6 ⟨rfl, hS6, hK6, hs6⟩; have HS6 := Lib.hid hS6; have HB6 := Lib.hid (HB5.out.trans hK6.1); clear hS6 hK6)
              | (go_at_call 6; (with_reducible refine (ToldC.error_any HEm.out km _ (HGc.out _ HB6.out)).mono ?_); rintro e W7 ⟨rfl, hB7⟩; obtain ⟨l6, v6, hS6⟩ := HS6.out; have HS7 := Lib.hid (hS6.below hB7); have HB7 := Lib.hid (HB6.out.trans (hB7.mono hs6)); clear hS6 hB7))
            go_roundw
            case rel => exact ⟨k + 1, wo.heap.size, l6, v6, by go_num, by omega, by omega, HB7.out, HS7.out⟩
            case measure => simp [intOf]; omega
      · have HKE := Lib.hid (keys_any HS.out.lim (by have := HS.out.len.1; omega))
        have hszr := hB.size
        have hll := HS.out.len.1
        have HU := Lib.hid HS.out.uniq
        obtain ⟨va, vc, hve, hvc, hvc2, _⟩ := HS.out.ref.own.slice
        have hcQ := HS.out.ref.c2
        rw [hve] at hcQ
        have hQl := HS.out.ref.lt
        clear hve hvc HS HEL
        go_wp2_with (go_at_call 24; (with_reducible refine HKE.out.mono ?_); rintro e w8 ⟨vk, ss, rfl, hperm, hrow, hnil, hB8⟩; obtain ⟨ka, kc, rfl, hks⟩ := keys_row hrow hperm HU.out; have HKS := Lib.hid hks; have HB8 := Lib.hid (hB.trans (hB8.mono hszr)); have hcQ8 := (hB8.cell (p := ⟨w2.heap.size, 2, none⟩) hQl).trans hcQ; clear hnil hrow hperm hks hB8 hcQ HKE)
        all_goals
          go_loopw [29] (fun iv wi => ∃ (i : Nat), iv = .int .i64 ((i : Int) + 1) ∧ (i + 1 ≤ l.length ∨ i = 0) ∧ Below w8.heap.size w8 wi) (fun iv _ => 101 - (intOf iv).toNat)
          case atStart => exact ⟨0, rfl, .inr rfl, Below.refl _ _⟩
          case round =>
            obtain ⟨i, rfl, hi1, hBi⟩ := hrel
            by_cases hi : i + 1 < l.length
            · obtain ⟨g, s, t, rfl, cs0, ct0, hlt⟩ := HKS.out i hi
              have cs := (hBi.cell (p := ⟨g, i, none⟩) (block_lt_of_cell cs0)).trans cs0
              have ct := (hBi.cell (p := ⟨g, i + 1, none⟩) (block_lt_of_cell ct0)).trans ct0
              clear cs0 ct0
              have ew : IntKind.i64.wrap ((i : Int) + 1 - 1) = (i : Int) := by rw [IntWalk.i64_in _ (by omega)]; omega
              have i0 : (0 : Int) ≤ (i : Int) + 1 := by omega
              have i1 : (i : Int) + 1 < (l.length : Int) := by omega
              have i2 : (0 : Int) ≤ (i : Int) := by omega
              have i3 : (i : Int) < (l.length : Int) := by omega
              have i4 : ((i : Int) + 1).toNat = i + 1 := by omega
              go_wp2
              go_quiet (fail)
              go_wp2
              go_roundw
              case rel => exact ⟨i + 1, by go_num, .inl (by omega), below_drewN hBi _⟩
              case measure => simp [intOf]; omega
            · have hcQ9 := (hBi.cell (p := ⟨w2.heap.size, 2, none⟩) (block_lt_of_cell hcQ8)).trans hcQ8
              go_wp2
              all_goals go_ret
              all_goals exact ⟨rfl, HB8.out.trans (hBi.mono HB8.out.size)⟩
  · have hbad : rate < 1 ∨ 1000000 < rate ∨ burst < 1 ∨ 1000000 < burst := by omega
    have hcase : rate < 1 ∨ (1 ≤ rate ∧ 1000000 < rate) ∨ (1 ≤ rate ∧ rate ≤ 1000000 ∧ burst < 1) ∨ (1 ≤ rate ∧ rate ≤ 1000000 ∧ 1 ≤ burst ∧ 1000000 < burst) := by omega
    have HN := Lib.hid (new_bad rate burst w hbad)
    clear hbad hgood
    rcases hcase with c1 | ⟨c1, c2⟩ | ⟨c1, c2, c3⟩ | ⟨c1, c2, c3, c4⟩
    all_goals
      go_enter Tryd.func4, Tryd.ntmps4
      go_wp2_with (first
        | (go_at_call 17; (with_reducible refine HN.out.mono ?_); rintro e w1 ⟨rfl, rfl⟩)
        | (go_at_call 6; (with_reducible refine (ToldC.error_any (.err 1) 1 _ (HGc.out _ (Below.refl _ _))).mono ?_); rintro e w2 ⟨rfl, hB2⟩))
      go_ret
      exact ⟨rfl, hB2⟩
end Go.Proofs.YtfgplghjgjnggaaDoor.WalkLimitPlays
