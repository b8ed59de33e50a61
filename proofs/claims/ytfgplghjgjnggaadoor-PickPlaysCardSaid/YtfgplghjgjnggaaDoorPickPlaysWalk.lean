/-
  The walk of the law PickPlays: for every steps it returns true and writes nothing that was there.
  Conditions: errors.errorType starts as the program's text lays it.
-/
import Derived.Test.YtfgplghjgjnggaaDoorArgs
import Derived.Test.YtfgplghjgjnggaaDoorPickSteps
import Derived.Deep.CutBlock
import Derived.Deep.RegionHeld3
import Derived.Lib.Hide
namespace Go.Proofs.YtfgplghjgjnggaaDoor.WalkPickPlays
open Go.RowKit MapsL ModL PickC PickR PickS
set_option linter.unusedVariables false
set_option linter.unusedSimpArgs false

theorem newV {B V0 V P M Q : Nat} {W W' : World} {l r : List Ent} {v : Value} (h : St B V0 P M Q W l r v) (hB : Below W.heap.size W W') (hV : V = W.heap.size) (hlt : V < W'.heap.size) : St B V P M Q W' l r v := by
  have hp := h.pick.lt
  have hq := h.ref.lt
  subst hV
  refine ⟨h.pick.below hB, h.ref.below hB, fun g hg => ?_, ⟨h.fq.1, h.fq.2.1, by omega, by omega, by omega, fun e he => ?_⟩, h.low, hlt, h.len⟩
  · have := (h.ref.own.lt g hg).2
    exact ⟨(h.fo g hg).1, (h.fo g hg).2.1, by omega, (h.fo g hg).2.2.2⟩
  · have := (h.pick.ents e he).lt
    exact ⟨(h.fq.2.2.2.2.2 e he).1, by omega⟩
theorem drew_below (W : World) : Below W.heap.size W W.drew := ⟨rfl, rfl, rfl, Nat.le_refl _, fun _ _ => rfl⟩
set_option maxRecDepth 100000 in
set_option maxHeartbeats 8000000 in
theorem walk (v0 : Value) (rows : List (List Int)) (w : World) (hr : Args.IntRowsAt w v0 rows) (hg : w.cell? ⟨2, 0, none⟩ = some (.iface 125 (.agg #[.pointer (some ⟨3, 33, none⟩)]))) :
    Calls Tryd.prog 3 #[v0] w fun e w' => e = .returned (.bool true) ∧ Below w.heap.size w w' := by
  have hglt := block_lt_of_cell hg
  have HGc : Hid (∀ W', Below w.heap.size w W' → W'.cell? ⟨2, 0, none⟩ = some (.iface 125 (.agg #[.pointer (some ⟨3, 33, none⟩)]))) := fun W' hB => (hB.cell (p := ⟨2, 0, none⟩) (block_lt_of_cell hg)).trans hg
  obtain ⟨a1, cap, rfl, hcap, hcap2, hel⟩ := hr.open
  have HEL := Lib.hid hel
  clear hel hr hg
  go_enter Tryd.func3, Tryd.ntmps3
  go_wp2_with (go_at_call 5; refine (new_any _).mono ?_; rintro e w1 ⟨rfl, hp1, hB1, hsz1⟩; have HP1 := Lib.hid (And.intro hp1 (And.intro hB1 hsz1)); clear hp1 hB1 hsz1)
  go_loopw [5] (fun iv wr => ∃ (k : Nat) (V : Nat) (l : List Ent) (v : Value), iv = .int .i64 k ∧ k ≤ rows.length ∧ k ≤ 120 ∧ Below w.heap.size w wr ∧ Hid (St w.heap.size V (w.heap.size + 1) w.heap.size w1.heap.size wr l l v)) (fun iv _ => 120 - (intOf iv).toNat)
  case atStart =>
    obtain ⟨hp1, hB1, hsz1⟩ := HP1.out
    have hs0 : w.heap.size ≤ w1.heap.size := by omega
    have hBa := hB1.alloc hs0 (.cells #[.slice none 0 0] 28)
    have hBb := (Below.refl w1.heap.size w1).alloc (Nat.le_refl _) (.cells #[.slice none 0 0] 28)
    refine ⟨0, 2, [], .slice none 0 0, rfl, Nat.zero_le _, Nat.zero_le _, hBa, ?_⟩
    show St _ _ _ _ _ _ _ _ _
    refine ⟨hp1.below hBb, ⟨by simp, by simp, RowsK.Own.nil _ _ _ _⟩, (fun g hg => by cases hg), ⟨by omega, by omega, by omega, by omega, by omega, (fun e he => by cases he)⟩, ⟨by omega, by omega, by omega, (fun e he => by cases he)⟩, by simp; omega, by simp, by simp⟩
  case round =>
    obtain ⟨k, V0, l, v, rfl, hk1, hk2, hB, HS⟩ := hrel
    by_cases hin : k < rows.length ∧ k < 120
    · obtain ⟨h1, h2⟩ := hin
      obtain ⟨b, off, x, rfl, hb, hv, hx⟩ := HEL.out k h1
      obtain ⟨ax, capx, rfl, hcx, hcx2, helx⟩ := hx.open
      have HX := Lib.hid helx
      have hI := Lib.hid hx.2
      clear helx hx
      have hv' := (hB.cell (p := ⟨b, off + k, none⟩) hb).trans hv
      generalize rows.getD k [] = r at *
      clear hv
      have hszr := hB.size
      obtain ⟨wo, rfl⟩ : ∃ wo : World, wo = wr := ⟨_, rfl⟩
      go_upto_block 2 with fail
      go_cut [7] from 16 to 137 (fun _ wc => Below wo.heap.size wo wc ∧ wo.heap.size < wc.heap.size ∧ wc.cell? ⟨wo.heap.size, 0, none⟩ = some (.int .i64 (r.getD 0 0)) ∧ wc.cell? ⟨wo.heap.size, 1, none⟩ = some (.int .i64 (r.getD 1 0)) ∧ wc.cell? ⟨wo.heap.size, 2, none⟩ = some (.int .i64 (r.getD 2 0)))
      case first =>
        go_wp2_with fail
        go_loopw [7] (fun jv wi => ∃ (j : Nat), jv = .int .i64 j ∧ j ≤ r.length ∧ j ≤ 3 ∧ Below wo.heap.size wo wi ∧ wo.heap.size < wi.heap.size ∧ Hid (∀ t, t < 3 → wi.frozen? ⟨wo.heap.size, t, none⟩ = false ∧ wi.cell? ⟨wo.heap.size, t, none⟩ = some (.int .i64 (Args.cp r j t)))) (fun jv _ => 3 - (intOf jv).toNat)
        case atStart => exact ⟨0, rfl, by omega, by omega, (Below.refl _ _).alloc (Nat.le_refl _) _, by simp, by intro t ht; rcases t with _ | _ | _ | t <;> first | (simp [Args.cp]; done) | omega⟩
        case round =>
          obtain ⟨j, rfl, hj1, hj2, hBi, hsi, HD⟩ := hrel
          have hv2 := (hBi.cell (p := ⟨b, off + k, none⟩) (by simp only; omega)).trans hv'
          by_cases hj : j < r.length ∧ j < 3
          · obtain ⟨g1, g2⟩ := hj
            obtain ⟨bx, ox, rfl, hbx, hvx, hix⟩ := HX.out j g1
            have hvx2 := (hBi.cell (p := ⟨bx, ox + j, none⟩) (by simp only; omega)).trans ((hB.cell (p := ⟨bx, ox + j, none⟩) hbx).trans hvx)
            clear hix hvx
            obtain ⟨hfj, hcj⟩ := HD.out j g2
            obtain ⟨vj, hvj⟩ : ∃ vj, r.getD j 0 = vj := ⟨_, rfl⟩
            rw [hvj] at hvx2
            have HVJ := Lib.hid hvj
            clear hvj
            go_wp2
            go_roundw
            case rel => exact ⟨j + 1, by go_num, by omega, by omega, hBi.setCell (Nat.le_refl _) _, by simp; omega, fun t ht => by
              obtain ⟨f1, c1⟩ := HD.out t ht
              by_cases e : t = j
              · subst e; exact ⟨by simp [go_sem, f1], by rw [World.cell?_setCell_same _ _ _ hcj, Args.cp_step, if_pos rfl, HVJ.out]⟩
              · exact ⟨by simp [go_sem, f1], by rw [World.cell?_setCell_other _ _ _ _ (by simp <;> omega), c1, Args.cp_step, if_neg e]⟩⟩
            case measure => simp [intOf]; omega
          · have d0 := (HD.out 0 (by omega)).2
            have d1 := (HD.out 1 (by omega)).2
            have d2 := (HD.out 2 (by omega)).2
            rw [Args.cp_full _ _ _ (by omega)] at d0 d1 d2
            have D := Lib.hid (And.intro d0 (And.intro d1 d2))
            clear d0 d1 d2
            go_wp2
            all_goals go_meet
            all_goals exact ⟨hBi, hsi, D.out.1, D.out.2.1, D.out.2.2⟩
      case rest =>
        obtain ⟨hBi, hsi, d0, d1, d2⟩ := hcut
        have b1 := Args.getD_i64 hI.out 1
        have b2 := Args.getD_i64 hI.out 2
        generalize r.getD 0 0 = op at *
        generalize r.getD 1 0 = x at *
        generalize r.getD 2 0 = y at *
        have HSV := Lib.hid (newV HS.out hBi rfl hsi)
        have HBW := Lib.hid (hB.trans (hBi.mono hszr))
        have hszw := HBW.out.size
        have hVl := (newV HS.out hBi rfl hsi).vlt
        clear hv' hB hBi HS
        have HS1 := Lib.hid (HSV.out.below (drew_below wc))
        have d1' : wc.drew.cell? ⟨wo.heap.size, 1, none⟩ = some (.int .i64 x) := d1
        have d2' : wc.drew.cell? ⟨wo.heap.size, 2, none⟩ = some (.int .i64 y) := d2
        have HB1 := Lib.hid (HBW.out.trans ((drew_below wc).mono hszw))
        have hszd : w.heap.size ≤ wc.drew.heap.size := hszw
        have hops : op = 0 ∨ op = 1 ∨ op = 2 ∨ op = 3 ∨ op = 4 ∨ ((op == 0) = false ∧ (op == 1) = false ∧ (op == 2) = false ∧ (op == 3) = false ∧ (op == 4) = false) := by simp only [beq_eq_false_iff_ne]; omega
        rcases hops with rfl | rfl | rfl | rfl | rfl | ⟨n0, n1, n2, n3, n4⟩
        · have hst := add_step (B := w.heap.size) (V := wo.heap.size) (P := w.heap.size + 1) (M := w.heap.size) (Q := w1.heap.size) (l := l) (v := v) x y b1
          obtain ⟨er, kk, Mid, hE, hc, hr⟩ := hst
          have HE := Lib.hid hE
          have HC := Lib.hid hc
          have HR := Lib.hid hr
          clear hE hc hr
          go_upto_region 15 with fail
          go_region_held3 (fun w' => w'.cell? ⟨wo.heap.size, 1, none⟩ = some (.int .i64 x) ∧ w'.cell? ⟨wo.heap.size, 2, none⟩ = some (.int .i64 y)) (first | exact ⟨d1', d2'⟩ | exact ⟨k1, k2⟩ | exact ⟨k3, k4⟩ | exact ⟨k5, k6⟩)
            (first
              | (go_at_call 7; refine (HC.out _ HS1.out hszd).mono ?_; rintro e W2 ⟨rfl, hMid, hK2, hs2⟩; have k1 := (hK2.2 1).trans d1'; have k2 := (hK2.2 2).trans d2'; have HM2 := Lib.hid hMid; have HB2 := Lib.hid (HB1.out.trans hK2.1); clear hMid hK2)
              | (go_at_call 8; refine (HR.out _ HM2.out hs2).mono ?_; rintro e W3 ⟨rfl, hS3, hK3, hs3⟩; have k3 := (hK3.2 1).trans k1; have k4 := (hK3.2 2).trans k2; have HS3 := Lib.hid hS3; have HB3 := Lib.hid (HB2.out.trans hK3.1); clear hS3 hK3)
              | (go_at_call 6; refine (ToldC.error_any HE.out kk _ (HGc.out _ HB3.out)).mono ?_; rintro e W4 ⟨rfl, hB4⟩; obtain ⟨l3, v3, hS3⟩ := HS3.out; have k5 := (hB4.cell (p := ⟨wo.heap.size, 1, none⟩) hS3.vlt).trans k3; have k6 := (hB4.cell (p := ⟨wo.heap.size, 2, none⟩) hS3.vlt).trans k4; have HS4 := Lib.hid (hS3.below hB4); have HB4 := Lib.hid (HB3.out.trans (hB4.mono hs3)); clear hS3 hB4))
          have hs4 := HB4.out.size
          go_wp2_with (first
            | (go_at_call 15; (with_reducible refine (next_any HS4.out.pick).mono ?_); rintro e W5 ⟨bid, bsc, bok, rfl, hbest, hB5⟩; have HBE := Lib.hid hbest; have HS5 := Lib.hid (HS4.out.below hB5); have HB5 := Lib.hid (HB4.out.trans (hB5.mono hs4)); have hs5 := HB5.out.size; clear hbest hB5)
            | (go_at_call 16; (with_reducible refine (least_ref HS5.out.ref).mono ?_); rintro e W6 ⟨kq, rfl, hL, hB6⟩; have HS6 := Lib.hid (HS5.out.below hB6); have HB6 := Lib.hid (HB5.out.trans (hB6.mono hs5)); obtain ⟨rfl, _, ⟨rfl, rfl⟩ | ⟨nq, xq, rfl, hnq, rfl⟩⟩ := best_lead HS4.out.uniq HBE.out hL; rotate_left; obtain ⟨gq, cq, hveq, _, _, hnl, hent⟩ := HS6.out.ref.entry hnq; have hcQ := HS6.out.ref.c0; rw [hveq] at hcQ; have hxQ := (hent nq xq hnq).1; have hq1 : (nq : Int) < (l3.length : Int) := (by omega); have hq0 : (0 : Int) ≤ (nq : Int) := (by omega); clear hL hB6 hent hnl hnq; rotate_left; clear hL hB6))
          all_goals
            go_roundw
            case rel => exact ⟨k + 1, wo.heap.size, l3, v3, by go_num, by omega, by omega, HB6.out, HS6.out⟩
            case measure => simp [intOf]; omega
        · have hst := drop_step (B := w.heap.size) (V := wo.heap.size) (P := w.heap.size + 1) (M := w.heap.size) (Q := w1.heap.size) (l := l) (v := v) x b1
          obtain ⟨er, kk, Mid, hE, hc, hr⟩ := hst
          have HE := Lib.hid hE
          have HC := Lib.hid hc
          have HR := Lib.hid hr
          clear hE hc hr
          go_upto_region 17 with fail
          go_region_held3 (fun w' => w'.cell? ⟨wo.heap.size, 1, none⟩ = some (.int .i64 x) ∧ w'.cell? ⟨wo.heap.size, 2, none⟩ = some (.int .i64 y)) (first | exact ⟨d1', d2'⟩ | exact ⟨k1, k2⟩ | exact ⟨k3, k4⟩ | exact ⟨k5, k6⟩)
            (first
              | (go_at_call 9; refine (HC.out _ HS1.out hszd).mono ?_; rintro e W2 ⟨rfl, hMid, hK2, hs2⟩; have k1 := (hK2.2 1).trans d1'; have k2 := (hK2.2 2).trans d2'; have HM2 := Lib.hid hMid; have HB2 := Lib.hid (HB1.out.trans hK2.1); clear hMid hK2)
              | (go_at_call 10; refine (HR.out _ HM2.out hs2).mono ?_; rintro e W3 ⟨rfl, hS3, hK3, hs3⟩; have k3 := (hK3.2 1).trans k1; have k4 := (hK3.2 2).trans k2; have HS3 := Lib.hid hS3; have HB3 := Lib.hid (HB2.out.trans hK3.1); clear hS3 hK3)
              | (go_at_call 6; refine (ToldC.error_any HE.out kk _ (HGc.out _ HB3.out)).mono ?_; rintro e W4 ⟨rfl, hB4⟩; obtain ⟨l3, v3, hS3⟩ := HS3.out; have k5 := (hB4.cell (p := ⟨wo.heap.size, 1, none⟩) hS3.vlt).trans k3; have k6 := (hB4.cell (p := ⟨wo.heap.size, 2, none⟩) hS3.vlt).trans k4; have HS4 := Lib.hid (hS3.below hB4); have HB4 := Lib.hid (HB3.out.trans (hB4.mono hs3)); clear hS3 hB4))
          have hs4 := HB4.out.size
          go_wp2_with (first
            | (go_at_call 15; (with_reducible refine (next_any HS4.out.pick).mono ?_); rintro e W5 ⟨bid, bsc, bok, rfl, hbest, hB5⟩; have HBE := Lib.hid hbest; have HS5 := Lib.hid (HS4.out.below hB5); have HB5 := Lib.hid (HB4.out.trans (hB5.mono hs4)); have hs5 := HB5.out.size; clear hbest hB5)
            | (go_at_call 16; (with_reducible refine (least_ref HS5.out.ref).mono ?_); rintro e W6 ⟨kq, rfl, hL, hB6⟩; have HS6 := Lib.hid (HS5.out.below hB6); have HB6 := Lib.hid (HB5.out.trans (hB6.mono hs5)); obtain ⟨rfl, _, ⟨rfl, rfl⟩ | ⟨nq, xq, rfl, hnq, rfl⟩⟩ := best_lead HS4.out.uniq HBE.out hL; rotate_left; obtain ⟨gq, cq, hveq, _, _, hnl, hent⟩ := HS6.out.ref.entry hnq; have hcQ := HS6.out.ref.c0; rw [hveq] at hcQ; have hxQ := (hent nq xq hnq).1; have hq1 : (nq : Int) < (l3.length : Int) := (by omega); have hq0 : (0 : Int) ≤ (nq : Int) := (by omega); clear hL hB6 hent hnl hnq; rotate_left; clear hL hB6))
          all_goals
            go_roundw
            case rel => exact ⟨k + 1, wo.heap.size, l3, v3, by go_num, by omega, by omega, HB6.out, HS6.out⟩
            case measure => simp [intOf]; omega
        · have hst := want_step (B := w.heap.size) (V := wo.heap.size) (P := w.heap.size + 1) (M := w.heap.size) (Q := w1.heap.size) (l := l) (v := v) x (decide (0 < y)) b1
          obtain ⟨er, kk, Mid, hE, hc, hr⟩ := hst
          have HE := Lib.hid hE
          have HC := Lib.hid hc
          have HR := Lib.hid hr
          clear hE hc hr
          go_upto_region 21 with fail
          go_region_held3 (fun w' => w'.cell? ⟨wo.heap.size, 1, none⟩ = some (.int .i64 x) ∧ w'.cell? ⟨wo.heap.size, 2, none⟩ = some (.int .i64 y)) (first | exact ⟨d1', d2'⟩ | exact ⟨k1, k2⟩ | exact ⟨k3, k4⟩ | exact ⟨k5, k6⟩)
            (first
              | (go_at_call 11; refine (HC.out _ HS1.out hszd).mono ?_; rintro e W2 ⟨rfl, hMid, hK2, hs2⟩; have k1 := (hK2.2 1).trans d1'; have k2 := (hK2.2 2).trans d2'; have HM2 := Lib.hid hMid; have HB2 := Lib.hid (HB1.out.trans hK2.1); clear hMid hK2)
              | (go_at_call 12; refine (HR.out _ HM2.out hs2).mono ?_; rintro e W3 ⟨rfl, hS3, hK3, hs3⟩; have k3 := (hK3.2 1).trans k1; have k4 := (hK3.2 2).trans k2; have HS3 := Lib.hid hS3; have HB3 := Lib.hid (HB2.out.trans hK3.1); clear hS3 hK3)
              | (go_at_call 6; refine (ToldC.error_any HE.out kk _ (HGc.out _ HB3.out)).mono ?_; rintro e W4 ⟨rfl, hB4⟩; obtain ⟨l3, v3, hS3⟩ := HS3.out; have k5 := (hB4.cell (p := ⟨wo.heap.size, 1, none⟩) hS3.vlt).trans k3; have k6 := (hB4.cell (p := ⟨wo.heap.size, 2, none⟩) hS3.vlt).trans k4; have HS4 := Lib.hid (hS3.below hB4); have HB4 := Lib.hid (HB3.out.trans (hB4.mono hs3)); clear hS3 hB4))
          have hs4 := HB4.out.size
          go_wp2_with (first
            | (go_at_call 15; (with_reducible refine (next_any HS4.out.pick).mono ?_); rintro e W5 ⟨bid, bsc, bok, rfl, hbest, hB5⟩; have HBE := Lib.hid hbest; have HS5 := Lib.hid (HS4.out.below hB5); have HB5 := Lib.hid (HB4.out.trans (hB5.mono hs4)); have hs5 := HB5.out.size; clear hbest hB5)
            | (go_at_call 16; (with_reducible refine (least_ref HS5.out.ref).mono ?_); rintro e W6 ⟨kq, rfl, hL, hB6⟩; have HS6 := Lib.hid (HS5.out.below hB6); have HB6 := Lib.hid (HB5.out.trans (hB6.mono hs5)); obtain ⟨rfl, _, ⟨rfl, rfl⟩ | ⟨nq, xq, rfl, hnq, rfl⟩⟩ := best_lead HS4.out.uniq HBE.out hL; rotate_left; obtain ⟨gq, cq, hveq, _, _, hnl, hent⟩ := HS6.out.ref.entry hnq; have hcQ := HS6.out.ref.c0; rw [hveq] at hcQ; have hxQ := (hent nq xq hnq).1; have hq1 : (nq : Int) < (l3.length : Int) := (by omega); have hq0 : (0 : Int) ≤ (nq : Int) := (by omega); clear hL hB6 hent hnl hnq; rotate_left; clear hL hB6))
          all_goals
            go_roundw
            case rel => exact ⟨k + 1, wo.heap.size, l3, v3, by go_num, by omega, by omega, HB6.out, HS6.out⟩
            case measure => simp [intOf]; omega
        · have hst := want_step (B := w.heap.size) (V := wo.heap.size) (P := w.heap.size + 1) (M := w.heap.size) (Q := w1.heap.size) (l := l) (v := v) x (decide (0 < y)) b1
          obtain ⟨er, kk, Mid, hE, hc, hr⟩ := hst
          have HE := Lib.hid hE
          have HC := Lib.hid hc
          have HR := Lib.hid hr
          clear hE hc hr
          go_upto_region 21 with fail
          go_region_held3 (fun w' => w'.cell? ⟨wo.heap.size, 1, none⟩ = some (.int .i64 x) ∧ w'.cell? ⟨wo.heap.size, 2, none⟩ = some (.int .i64 y)) (first | exact ⟨d1', d2'⟩ | exact ⟨k1, k2⟩ | exact ⟨k3, k4⟩ | exact ⟨k5, k6⟩)
            (first
              | (go_at_call 11; refine (HC.out _ HS1.out hszd).mono ?_; rintro e W2 ⟨rfl, hMid, hK2, hs2⟩; have k1 := (hK2.2 1).trans d1'; have k2 := (hK2.2 2).trans d2'; have HM2 := Lib.hid hMid; have HB2 := Lib.hid (HB1.out.trans hK2.1); clear hMid hK2)
              | (go_at_call 12; refine (HR.out _ HM2.out hs2).mono ?_; rintro e W3 ⟨rfl, hS3, hK3, hs3⟩; have k3 := (hK3.2 1).trans k1; have k4 := (hK3.2 2).trans k2; have HS3 := Lib.hid hS3; have HB3 := Lib.hid (HB2.out.trans hK3.1); clear hS3 hK3)
              | (go_at_call 6; refine (ToldC.error_any HE.out kk _ (HGc.out _ HB3.out)).mono ?_; rintro e W4 ⟨rfl, hB4⟩; obtain ⟨l3, v3, hS3⟩ := HS3.out; have k5 := (hB4.cell (p := ⟨wo.heap.size, 1, none⟩) hS3.vlt).trans k3; have k6 := (hB4.cell (p := ⟨wo.heap.size, 2, none⟩) hS3.vlt).trans k4; have HS4 := Lib.hid (hS3.below hB4); have HB4 := Lib.hid (HB3.out.trans (hB4.mono hs3)); clear hS3 hB4))
          have hs4 := HB4.out.size
          go_wp2_with (first
            | (go_at_call 15; (with_reducible refine (next_any HS4.out.pick).mono ?_); rintro e W5 ⟨bid, bsc, bok, rfl, hbest, hB5⟩; have HBE := Lib.hid hbest; have HS5 := Lib.hid (HS4.out.below hB5); have HB5 := Lib.hid (HB4.out.trans (hB5.mono hs4)); have hs5 := HB5.out.size; clear hbest hB5)
            | (go_at_call 16; (with_reducible refine (least_ref HS5.out.ref).mono ?_); rintro e W6 ⟨kq, rfl, hL, hB6⟩; have HS6 := Lib.hid (HS5.out.below hB6); have HB6 := Lib.hid (HB5.out.trans (hB6.mono hs5)); obtain ⟨rfl, _, ⟨rfl, rfl⟩ | ⟨nq, xq, rfl, hnq, rfl⟩⟩ := best_lead HS4.out.uniq HBE.out hL; rotate_left; obtain ⟨gq, cq, hveq, _, _, hnl, hent⟩ := HS6.out.ref.entry hnq; have hcQ := HS6.out.ref.c0; rw [hveq] at hcQ; have hxQ := (hent nq xq hnq).1; have hq1 : (nq : Int) < (l3.length : Int) := (by omega); have hq0 : (0 : Int) ≤ (nq : Int) := (by omega); clear hL hB6 hent hnl hnq; rotate_left; clear hL hB6))
          all_goals
            go_roundw
            case rel => exact ⟨k + 1, wo.heap.size, l3, v3, by go_num, by omega, by omega, HB6.out, HS6.out⟩
            case measure => simp [intOf]; omega
        · have hst := want_step (B := w.heap.size) (V := wo.heap.size) (P := w.heap.size + 1) (M := w.heap.size) (Q := w1.heap.size) (l := l) (v := v) x (decide (0 < y)) b1
          obtain ⟨er, kk, Mid, hE, hc, hr⟩ := hst
          have HE := Lib.hid hE
          have HC := Lib.hid hc
          have HR := Lib.hid hr
          clear hE hc hr
          go_upto_region 21 with fail
          go_region_held3 (fun w' => w'.cell? ⟨wo.heap.size, 1, none⟩ = some (.int .i64 x) ∧ w'.cell? ⟨wo.heap.size, 2, none⟩ = some (.int .i64 y)) (first | exact ⟨d1', d2'⟩ | exact ⟨k1, k2⟩ | exact ⟨k3, k4⟩ | exact ⟨k5, k6⟩)
            (first
              | (go_at_call 11; refine (HC.out _ HS1.out hszd).mono ?_; rintro e W2 ⟨rfl, hMid, hK2, hs2⟩; have k1 := (hK2.2 1).trans d1'; have k2 := (hK2.2 2).trans d2'; have HM2 := Lib.hid hMid; have HB2 := Lib.hid (HB1.out.trans hK2.1); clear hMid hK2)
              | (go_at_call 12; refine (HR.out _ HM2.out hs2).mono ?_; rintro e W3 ⟨rfl, hS3, hK3, hs3⟩; have k3 := (hK3.2 1).trans k1; have k4 := (hK3.2 2).trans k2; have HS3 := Lib.hid hS3; have HB3 := Lib.hid (HB2.out.trans hK3.1); clear hS3 hK3)
              | (go_at_call 6; refine (ToldC.error_any HE.out kk _ (HGc.out _ HB3.out)).mono ?_; rintro e W4 ⟨rfl, hB4⟩; obtain ⟨l3, v3, hS3⟩ := HS3.out; have k5 := (hB4.cell (p := ⟨wo.heap.size, 1, none⟩) hS3.vlt).trans k3; have k6 := (hB4.cell (p := ⟨wo.heap.size, 2, none⟩) hS3.vlt).trans k4; have HS4 := Lib.hid (hS3.below hB4); have HB4 := Lib.hid (HB3.out.trans (hB4.mono hs3)); clear hS3 hB4))
          have hs4 := HB4.out.size
          go_wp2_with (first
            | (go_at_call 15; (with_reducible refine (next_any HS4.out.pick).mono ?_); rintro e W5 ⟨bid, bsc, bok, rfl, hbest, hB5⟩; have HBE := Lib.hid hbest; have HS5 := Lib.hid (HS4.out.below hB5); have HB5 := Lib.hid (HB4.out.trans (hB5.mono hs4)); have hs5 := HB5.out.size; clear hbest hB5)
            | (go_at_call 16; (with_reducible refine (least_ref HS5.out.ref).mono ?_); rintro e W6 ⟨kq, rfl, hL, hB6⟩; have HS6 := Lib.hid (HS5.out.below hB6); have HB6 := Lib.hid (HB5.out.trans (hB6.mono hs5)); obtain ⟨rfl, _, ⟨rfl, rfl⟩ | ⟨nq, xq, rfl, hnq, rfl⟩⟩ := best_lead HS4.out.uniq HBE.out hL; rotate_left; obtain ⟨gq, cq, hveq, _, _, hnl, hent⟩ := HS6.out.ref.entry hnq; have hcQ := HS6.out.ref.c0; rw [hveq] at hcQ; have hxQ := (hent nq xq hnq).1; have hq1 : (nq : Int) < (l3.length : Int) := (by omega); have hq0 : (0 : Int) ≤ (nq : Int) := (by omega); clear hL hB6 hent hnl hnq; rotate_left; clear hL hB6))
          all_goals
            go_roundw
            case rel => exact ⟨k + 1, wo.heap.size, l3, v3, by go_num, by omega, by omega, HB6.out, HS6.out⟩
            case measure => simp [intOf]; omega
        · have hst := sent_step (B := w.heap.size) (V := wo.heap.size) (P := w.heap.size + 1) (M := w.heap.size) (Q := w1.heap.size) (l := l) (v := v) x y b1
          obtain ⟨er, kk, Mid, hE, hc, hr⟩ := hst
          have HE := Lib.hid hE
          have HC := Lib.hid hc
          have HR := Lib.hid hr
          clear hE hc hr
          go_upto_region 13 with fail
          go_region_held3 (fun w' => w'.cell? ⟨wo.heap.size, 1, none⟩ = some (.int .i64 x) ∧ w'.cell? ⟨wo.heap.size, 2, none⟩ = some (.int .i64 y)) (first | exact ⟨d1', d2'⟩ | exact ⟨k1, k2⟩ | exact ⟨k3, k4⟩ | exact ⟨k5, k6⟩)
            (first
              | (go_at_call 13; refine (HC.out _ HS1.out hszd).mono ?_; rintro e W2 ⟨rfl, hMid, hK2, hs2⟩; have k1 := (hK2.2 1).trans d1'; have k2 := (hK2.2 2).trans d2'; have HM2 := Lib.hid hMid; have HB2 := Lib.hid (HB1.out.trans hK2.1); clear hMid hK2)
              | (go_at_call 14; refine (HR.out _ HM2.out hs2).mono ?_; rintro e W3 ⟨rfl, hS3, hK3, hs3⟩; have k3 := (hK3.2 1).trans k1; have k4 := (hK3.2 2).trans k2; have HS3 := Lib.hid hS3; have HB3 := Lib.hid (HB2.out.trans hK3.1); clear hS3 hK3)
              | (go_at_call 6; refine (ToldC.error_any HE.out kk _ (HGc.out _ HB3.out)).mono ?_; rintro e W4 ⟨rfl, hB4⟩; obtain ⟨l3, v3, hS3⟩ := HS3.out; have k5 := (hB4.cell (p := ⟨wo.heap.size, 1, none⟩) hS3.vlt).trans k3; have k6 := (hB4.cell (p := ⟨wo.heap.size, 2, none⟩) hS3.vlt).trans k4; have HS4 := Lib.hid (hS3.below hB4); have HB4 := Lib.hid (HB3.out.trans (hB4.mono hs3)); clear hS3 hB4))
          have hs4 := HB4.out.size
          go_wp2_with (first
            | (go_at_call 15; (with_reducible refine (next_any HS4.out.pick).mono ?_); rintro e W5 ⟨bid, bsc, bok, rfl, hbest, hB5⟩; have HBE := Lib.hid hbest; have HS5 := Lib.hid (HS4.out.below hB5); have HB5 := Lib.hid (HB4.out.trans (hB5.mono hs4)); have hs5 := HB5.out.size; clear hbest hB5)
            | (go_at_call 16; (with_reducible refine (least_ref HS5.out.ref).mono ?_); rintro e W6 ⟨kq, rfl, hL, hB6⟩; have HS6 := Lib.hid (HS5.out.below hB6); have HB6 := Lib.hid (HB5.out.trans (hB6.mono hs5)); obtain ⟨rfl, _, ⟨rfl, rfl⟩ | ⟨nq, xq, rfl, hnq, rfl⟩⟩ := best_lead HS4.out.uniq HBE.out hL; rotate_left; obtain ⟨gq, cq, hveq, _, _, hnl, hent⟩ := HS6.out.ref.entry hnq; have hcQ := HS6.out.ref.c0; rw [hveq] at hcQ; have hxQ := (hent nq xq hnq).1; have hq1 : (nq : Int) < (l3.length : Int) := (by omega); have hq0 : (0 : Int) ≤ (nq : Int) := (by omega); clear hL hB6 hent hnl hnq; rotate_left; clear hL hB6))
          all_goals
            go_roundw
            case rel => exact ⟨k + 1, wo.heap.size, l3, v3, by go_num, by omega, by omega, HB6.out, HS6.out⟩
            case measure => simp [intOf]; omega
    · go_wp2
      all_goals go_ret
      all_goals exact ⟨rfl, hB⟩
end Go.Proofs.YtfgplghjgjnggaaDoor.WalkPickPlays
