/-
  The walk of the law FlowPlays: for every n and steps it returns true and writes nothing that was there.
  Conditions: errors.errorType starts as the program's text lays it.
-/
import Derived.Test.YtpbaanoheeghlaaDoorArgs
import Derived.Test.YtpbaanoheeghlaaDoorFlow
import Derived.Test.YtpbaanoheeghlaaDoorTold
import Derived.Deep.CutBlock
import Derived.Lib.Hide
namespace Go.Proofs.YtpbaanoheeghlaaDoor.WalkFlowPlays
open Go.RowKit
set_option linter.unusedVariables false

set_option maxRecDepth 100000 in
set_option maxHeartbeats 4000000 in
theorem walk (a0 : Int) (v1 : Value) (rows : List (List Int)) (w : World) (w0 : Args.I64 a0) (w1 : Args.IntRowsAt w v1 rows) (hg : w.cell? ⟨0, 0, none⟩ = some (.iface 64 (.agg #[.pointer (some ⟨1, 25, none⟩)]))) :
    Calls Tryd.prog 3 #[.int .i64 a0, v1] w fun e w' => e = .returned (.bool true) ∧ Below w.heap.size w w' := by
  obtain ⟨hn1, hn2⟩ := w0
  by_cases hb : 0 ≤ a0 ∧ a0 ≤ 2147483647
  · obtain ⟨hb0, hb1⟩ := hb
    have HGc : Hid (∀ W', Below w.heap.size w W' → W'.cell? ⟨0, 0, none⟩ = some (.iface 64 (.agg #[.pointer (some ⟨1, 25, none⟩)]))) := fun W' hB => (hB.cell (p := ⟨0, 0, none⟩) (block_lt_of_cell hg)).trans hg
    have HR := Lib.hid w1
    obtain ⟨a1, cap, rfl, hcap, hcap2, hel⟩ := w1.open
    have HEL := Lib.hid hel
    clear hel w1 hg
    go_enter Tryd.func3, Tryd.ntmps3
    go_wp2_with (go_at_call 5; refine (Flow.new_ok _ hb0 hb1 _).mono ?_; rintro e w' ⟨rfl, rfl⟩)
    refine (ToldC.error_any ToldC.ErrIs.nil 0 _ (HGc.out _ ((Below.refl _ _).alloc (Nat.le_refl _) _))).mono ?_
    rintro e w0 ⟨rfl, hB0⟩
    have hBw : Below w.heap.size w w0 := ((Below.refl _ _).alloc (Nat.le_refl _) _).trans (hB0.mono (by simp))
    have hs0 := hB0.size
    simp only [World.size_alloc] at hs0
    have hc0 : w0.cell? ⟨w.heap.size, 0, none⟩ = some (.int .i64 a0) := (hB0.cell (p := ⟨w.heap.size, 0, none⟩) (by simp)).trans (by simp)
    have hf0 : w0.frozen? ⟨w.heap.size, 0, none⟩ = false := (hB0.frozen (p := ⟨w.heap.size, 0, none⟩) (by simp)).trans (by simp)
    have HW0 := Lib.hid (And.intro hBw (And.intro hc0 hf0))
    clear hBw hc0 hf0 hB0
    go_wp2
    go_loopw [7, 8, 9, 10] (fun e told left i wr => ∃ (k : Nat) (z : Int), i = .int .i64 k ∧ told = .bool true ∧ left = .int .i64 z ∧ k ≤ rows.length ∧ k ≤ 80 ∧ z ≤ 2147483647 ∧ -4294967296 * (k : Int) ≤ z ∧ Below w.heap.size w wr ∧ w.heap.size < wr.heap.size ∧ wr.cell? ⟨w.heap.size, 0, none⟩ = some (.int .i64 z) ∧ wr.frozen? ⟨w.heap.size, 0, none⟩ = false) (fun _ _ _ i _ => 80 - (intOf i).toNat)
    case atStart => exact ⟨0, a0, rfl, rfl, rfl, by omega, by omega, hb1, by omega, HW0.out.1, by omega, HW0.out.2.1, HW0.out.2.2⟩
    case round =>
      obtain ⟨k, z, rfl, rfl, rfl, hk1, hk2, hz1, hz2, hB, hs, hc, hf⟩ := hrel
      by_cases hin : k < rows.length ∧ k < 80
      · obtain ⟨h1, h2⟩ := hin
        obtain ⟨b, off, x, rfl, hb, hv, hx⟩ := HEL.out k h1
        obtain ⟨ax, capx, rfl, hcx, hcx2, helx⟩ := hx.open
        have HX := Lib.hid helx
        have hI := Lib.hid hx.2
        clear helx hx
        have hv' := (hB.cell (p := ⟨b, off + k, none⟩) hb).trans hv
        generalize rows.getD k [] = r at *
        clear hv
        have hszr := hB.size
        obtain ⟨wo, rfl⟩ : ∃ wo : World, wo = wr := ⟨_, rfl⟩
        go_upto_block 2 with fail
        go_cut [12] from 37 to 151 (fun _ wc => Below wo.heap.size wo wc ∧ wo.heap.size < wc.heap.size ∧ wc.cell? ⟨wo.heap.size, 0, none⟩ = some (.int .i64 (r.getD 0 0)) ∧ wc.cell? ⟨wo.heap.size, 1, none⟩ = some (.int .i64 (r.getD 1 0)) ∧ wc.cell? ⟨wo.heap.size, 2, none⟩ = some (.int .i64 (r.getD 2 0)))
        case first =>
          go_wp2_with fail
          go_loopw [12] (fun jv wi => ∃ (j : Nat), jv = .int .i64 j ∧ j ≤ r.length ∧ j ≤ 3 ∧ Below wo.heap.size wo wi ∧ wo.heap.size < wi.heap.size ∧ Hid (∀ t, t < 3 → wi.frozen? ⟨wo.heap.size, t, none⟩ = false ∧ wi.cell? ⟨wo.heap.size, t, none⟩ = some (.int .i64 (Args.cp r j t)))) (fun jv _ => 3 - (intOf jv).toNat)
          case atStart => exact ⟨0, rfl, by omega, by omega, (Below.refl _ _).alloc (Nat.le_refl _) _, by simp, by intro t ht; rcases t with _ | _ | _ | t <;> first | (simp [Args.cp]; done) | omega⟩
          case round =>
            obtain ⟨j, rfl, hj1, hj2, hBi, hsi, HD⟩ := hrel
            have hv2 := (hBi.cell (p := ⟨b, off + k, none⟩) (by simp only; omega)).trans hv'
            by_cases hj : j < r.length ∧ j < 3
            · obtain ⟨g1, g2⟩ := hj
              obtain ⟨bx, ox, rfl, hbx, hvx, hix⟩ := HX.out j g1
              have hvx2 := (hBi.cell (p := ⟨bx, ox + j, none⟩) (by simp only; omega)).trans ((hB.cell (p := ⟨bx, ox + j, none⟩) hbx).trans hvx)
              clear hix hvx
              obtain ⟨hfj, hcj⟩ := HD.out j g2
              obtain ⟨vj, hvj⟩ : ∃ vj, r.getD j 0 = vj := ⟨_, rfl⟩
              rw [hvj] at hvx2
              have HVJ := Lib.hid hvj
              clear hvj
              go_wp2
              go_roundw
              case rel => exact ⟨j + 1, by go_num, by omega, by omega, hBi.setCell (Nat.le_refl _) _, by simp; omega, fun t ht => by
                obtain ⟨f1, c1⟩ := HD.out t ht
                by_cases e : t = j
                · subst e; exact ⟨by simp [go_sem, f1], by rw [World.cell?_setCell_same _ _ _ hcj, Args.cp_step, if_pos rfl, HVJ.out]⟩
                · exact ⟨by simp [go_sem, f1], by rw [World.cell?_setCell_other _ _ _ _ (by simp <;> omega), c1, Args.cp_step, if_neg e]⟩⟩
              case measure => simp [intOf]; omega
            · have d0 := (HD.out 0 (by omega)).2
              have d1 := (HD.out 1 (by omega)).2
              have d2 := (HD.out 2 (by omega)).2
              rw [Args.cp_full _ _ _ (by omega)] at d0 d1 d2
              have D := Lib.hid (And.intro d0 (And.intro d1 d2))
              clear d0 d1 d2
              go_wp2
              all_goals go_meet
              all_goals exact ⟨hBi, hsi, D.out.1, D.out.2.1, D.out.2.2⟩
        case rest =>
          obtain ⟨hBi, hsi, d0, d1, d2⟩ := hcut
          have b1 := Args.getD_i64 hI.out 1
          have b2 := Args.getD_i64 hI.out 2
          generalize r.getD 0 0 = op at *
          generalize r.getD 1 0 = x at *
          generalize r.getD 2 0 = y at *
          obtain ⟨x1, x2⟩ := b1
          obtain ⟨y1, y2⟩ := b2
          have hc2 := (hBi.cell (p := ⟨w.heap.size, 0, none⟩) hs).trans hc
          have hf2 := (hBi.frozen (p := ⟨w.heap.size, 0, none⟩) hs).trans hf
          have HB2 := Lib.hid (hB.trans (hBi.mono (Nat.le_of_lt hs)))
          clear hc hf hv' hB hBi
          have HBS : Hid (∀ v, Below w.heap.size w (wc.setCell ⟨w.heap.size, 0, none⟩ v)) := fun v => HB2.out.setCell (Nat.le_refl _) v
          have hops : op = 0 ∨ op = 1 ∨ op = 2 ∨ op = 3 ∨ ((op == 0) = false ∧ (op == 1) = false ∧ (op == 2) = false ∧ (op == 3) = false) := by simp only [beq_eq_false_iff_ne]; omega
          rcases hops with rfl | rfl | rfl | rfl | ⟨n0, n1, n2, n3⟩
          · skip
            by_cases t3 : x < 0
            · skip
              go_wp2_with fail
              refine (Flow.take_any _ z x _ hc2 hf2 (by omega) (by omega)).mono ?_
              rintro e w2 (⟨q, rfl, rfl⟩ | ⟨q, q2, rfl, rfl⟩ | ⟨q, q2, rfl, rfl⟩)
              all_goals (try (exfalso; omega))
              go_wp2_with fail
              refine (ToldC.error_any (ToldC.ErrIs.err 1) 1 _ (HGc.out _ HB2.out)).mono ?_
              rintro e w3 ⟨rfl, hBe⟩
              have HBX := Lib.hid (HB2.out.trans (hBe.mono (by omega)))
              have gc := (hBe.cell (p := ⟨w.heap.size, 0, none⟩) (by simp only; omega)).trans hc2
              have gf := (hBe.frozen (p := ⟨w.heap.size, 0, none⟩) (by simp only; omega)).trans hf2
              have gs := hBe.size
              try simp only [World.size_setCell] at gs
              clear hBe
              go_wp2_with (go_at_call 10; refine (Flow.left_any _ _ _ gc).mono ?_; rintro e w' ⟨rfl, rfl⟩)
              go_roundw
              case rel => first | exact ⟨k + 1, z, by go_num, rfl, rfl, by omega, by omega, by omega, by omega, HBX.out, by omega, gc, gf⟩ | ((repeat apply Exists.intro); exact ⟨⟨k + 1, z, by go_num, rfl, rfl, by omega, by omega, by omega, by omega, HBX.out, by omega, gc, gf⟩, rfl⟩)
              case measure => simp [intOf]; omega
            · skip
              by_cases t2 : z < x
              · skip
                go_wp2_with fail
                refine (Flow.take_any _ z x _ hc2 hf2 (by omega) (by omega)).mono ?_
                rintro e w2 (⟨q, rfl, rfl⟩ | ⟨q, q2, rfl, rfl⟩ | ⟨q, q2, rfl, rfl⟩)
                all_goals (try (exfalso; omega))
                go_wp2_with fail
                refine (ToldC.error_any (ToldC.ErrIs.err 9) 9 _ (HGc.out _ HB2.out)).mono ?_
                rintro e w3 ⟨rfl, hBe⟩
                have HBX := Lib.hid (HB2.out.trans (hBe.mono (by omega)))
                have gc := (hBe.cell (p := ⟨w.heap.size, 0, none⟩) (by simp only; omega)).trans hc2
                have gf := (hBe.frozen (p := ⟨w.heap.size, 0, none⟩) (by simp only; omega)).trans hf2
                have gs := hBe.size
                try simp only [World.size_setCell] at gs
                clear hBe
                go_wp2_with (go_at_call 10; refine (Flow.left_any _ _ _ gc).mono ?_; rintro e w' ⟨rfl, rfl⟩)
                go_roundw
                case rel => first | exact ⟨k + 1, z, by go_num, rfl, rfl, by omega, by omega, by omega, by omega, HBX.out, by omega, gc, gf⟩ | ((repeat apply Exists.intro); exact ⟨⟨k + 1, z, by go_num, rfl, rfl, by omega, by omega, by omega, by omega, HBX.out, by omega, gc, gf⟩, rfl⟩)
                case measure => simp [intOf]; omega
              · skip
                go_wp2_with fail
                refine (Flow.take_any _ z x _ hc2 hf2 (by omega) (by omega)).mono ?_
                rintro e w2 (⟨q, rfl, rfl⟩ | ⟨q, q2, rfl, rfl⟩ | ⟨q, q2, rfl, rfl⟩)
                all_goals (try (exfalso; omega))
                go_wp2_with fail
                refine (ToldC.error_any ToldC.ErrIs.nil 0 _ (HGc.out _ (HBS.out _))).mono ?_
                rintro e w3 ⟨rfl, hBe⟩
                have HBX := Lib.hid ((HBS.out _).trans (hBe.mono (by simp; omega)))
                have gc := (hBe.cell (p := ⟨w.heap.size, 0, none⟩) (by simp; omega)).trans (World.cell?_setCell_same _ _ _ hc2)
                have gf : w3.frozen? ⟨w.heap.size, 0, none⟩ = false := (hBe.frozen (p := ⟨w.heap.size, 0, none⟩) (by simp; omega)).trans (by simp [hf2])
                have gs := hBe.size
                try simp only [World.size_setCell] at gs
                clear hBe
                go_wp2_with (go_at_call 10; refine (Flow.left_any _ _ _ gc).mono ?_; rintro e w' ⟨rfl, rfl⟩)
                go_roundw
                case rel => first | exact ⟨k + 1, z - x, by go_num, rfl, rfl, by omega, by omega, by omega, by omega, HBX.out, by omega, gc, gf⟩ | ((repeat apply Exists.intro); exact ⟨⟨k + 1, z - x, by go_num, rfl, rfl, by omega, by omega, by omega, by omega, HBX.out, by omega, gc, gf⟩, rfl⟩)
                case measure => simp [intOf]; omega
          · skip
            by_cases t3 : x < 0
            · skip
              go_wp2_with fail
              refine (Flow.take_any _ z x _ hc2 hf2 (by omega) (by omega)).mono ?_
              rintro e w2 (⟨q, rfl, rfl⟩ | ⟨q, q2, rfl, rfl⟩ | ⟨q, q2, rfl, rfl⟩)
              all_goals (try (exfalso; omega))
              go_wp2_with fail
              refine (ToldC.error_any (ToldC.ErrIs.err 1) 1 _ (HGc.out _ HB2.out)).mono ?_
              rintro e w3 ⟨rfl, hBe⟩
              have HBX := Lib.hid (HB2.out.trans (hBe.mono (by omega)))
              have gc := (hBe.cell (p := ⟨w.heap.size, 0, none⟩) (by simp only; omega)).trans hc2
              have gf := (hBe.frozen (p := ⟨w.heap.size, 0, none⟩) (by simp only; omega)).trans hf2
              have gs := hBe.size
              try simp only [World.size_setCell] at gs
              clear hBe
              go_wp2_with (go_at_call 10; refine (Flow.left_any _ _ _ gc).mono ?_; rintro e w' ⟨rfl, rfl⟩)
              go_roundw
              case rel => first | exact ⟨k + 1, z, by go_num, rfl, rfl, by omega, by omega, by omega, by omega, HBX.out, by omega, gc, gf⟩ | ((repeat apply Exists.intro); exact ⟨⟨k + 1, z, by go_num, rfl, rfl, by omega, by omega, by omega, by omega, HBX.out, by omega, gc, gf⟩, rfl⟩)
              case measure => simp [intOf]; omega
            · skip
              by_cases t2 : z < x
              · skip
                go_wp2_with fail
                refine (Flow.take_any _ z x _ hc2 hf2 (by omega) (by omega)).mono ?_
                rintro e w2 (⟨q, rfl, rfl⟩ | ⟨q, q2, rfl, rfl⟩ | ⟨q, q2, rfl, rfl⟩)
                all_goals (try (exfalso; omega))
                go_wp2_with fail
                refine (ToldC.error_any (ToldC.ErrIs.err 9) 9 _ (HGc.out _ HB2.out)).mono ?_
                rintro e w3 ⟨rfl, hBe⟩
                have HBX := Lib.hid (HB2.out.trans (hBe.mono (by omega)))
                have gc := (hBe.cell (p := ⟨w.heap.size, 0, none⟩) (by simp only; omega)).trans hc2
                have gf := (hBe.frozen (p := ⟨w.heap.size, 0, none⟩) (by simp only; omega)).trans hf2
                have gs := hBe.size
                try simp only [World.size_setCell] at gs
                clear hBe
                go_wp2_with (go_at_call 10; refine (Flow.left_any _ _ _ gc).mono ?_; rintro e w' ⟨rfl, rfl⟩)
                go_roundw
                case rel => first | exact ⟨k + 1, z, by go_num, rfl, rfl, by omega, by omega, by omega, by omega, HBX.out, by omega, gc, gf⟩ | ((repeat apply Exists.intro); exact ⟨⟨k + 1, z, by go_num, rfl, rfl, by omega, by omega, by omega, by omega, HBX.out, by omega, gc, gf⟩, rfl⟩)
                case measure => simp [intOf]; omega
              · skip
                go_wp2_with fail
                refine (Flow.take_any _ z x _ hc2 hf2 (by omega) (by omega)).mono ?_
                rintro e w2 (⟨q, rfl, rfl⟩ | ⟨q, q2, rfl, rfl⟩ | ⟨q, q2, rfl, rfl⟩)
                all_goals (try (exfalso; omega))
                go_wp2_with fail
                refine (ToldC.error_any ToldC.ErrIs.nil 0 _ (HGc.out _ (HBS.out _))).mono ?_
                rintro e w3 ⟨rfl, hBe⟩
                have HBX := Lib.hid ((HBS.out _).trans (hBe.mono (by simp; omega)))
                have gc := (hBe.cell (p := ⟨w.heap.size, 0, none⟩) (by simp; omega)).trans (World.cell?_setCell_same _ _ _ hc2)
                have gf : w3.frozen? ⟨w.heap.size, 0, none⟩ = false := (hBe.frozen (p := ⟨w.heap.size, 0, none⟩) (by simp; omega)).trans (by simp [hf2])
                have gs := hBe.size
                try simp only [World.size_setCell] at gs
                clear hBe
                go_wp2_with (go_at_call 10; refine (Flow.left_any _ _ _ gc).mono ?_; rintro e w' ⟨rfl, rfl⟩)
                go_roundw
                case rel => first | exact ⟨k + 1, z - x, by go_num, rfl, rfl, by omega, by omega, by omega, by omega, HBX.out, by omega, gc, gf⟩ | ((repeat apply Exists.intro); exact ⟨⟨k + 1, z - x, by go_num, rfl, rfl, by omega, by omega, by omega, by omega, HBX.out, by omega, gc, gf⟩, rfl⟩)
                case measure => simp [intOf]; omega
          · skip
            by_cases t4 : x < 1
            · skip
              go_wp2_with fail
              refine (Flow.give_any _ z x _ hc2 hf2 (by omega)).mono ?_
              rintro e w2 (⟨q, rfl, rfl⟩ | ⟨q, q2, q3, rfl, rfl⟩ | ⟨q, q2, q3, rfl, rfl⟩)
              all_goals (try (exfalso; omega))
              go_wp2_with fail
              refine (ToldC.error_any (ToldC.ErrIs.err 1) 1 _ (HGc.out _ HB2.out)).mono ?_
              rintro e w3 ⟨rfl, hBe⟩
              have HBX := Lib.hid (HB2.out.trans (hBe.mono (by omega)))
              have gc := (hBe.cell (p := ⟨w.heap.size, 0, none⟩) (by simp only; omega)).trans hc2
              have gf := (hBe.frozen (p := ⟨w.heap.size, 0, none⟩) (by simp only; omega)).trans hf2
              have gs := hBe.size
              try simp only [World.size_setCell] at gs
              clear hBe
              go_wp2_with (go_at_call 10; refine (Flow.left_any _ _ _ gc).mono ?_; rintro e w' ⟨rfl, rfl⟩)
              go_roundw
              case rel => first | exact ⟨k + 1, z, by go_num, rfl, rfl, by omega, by omega, by omega, by omega, HBX.out, by omega, gc, gf⟩ | ((repeat apply Exists.intro); exact ⟨⟨k + 1, z, by go_num, rfl, rfl, by omega, by omega, by omega, by omega, HBX.out, by omega, gc, gf⟩, rfl⟩)
              case measure => simp [intOf]; omega
            · skip
              by_cases t3 : 2147483647 < x
              · skip
                go_wp2_with fail
                refine (Flow.give_any _ z x _ hc2 hf2 (by omega)).mono ?_
                rintro e w2 (⟨q, rfl, rfl⟩ | ⟨q, q2, q3, rfl, rfl⟩ | ⟨q, q2, q3, rfl, rfl⟩)
                all_goals (try (exfalso; omega))
                go_wp2_with fail
                refine (ToldC.error_any (ToldC.ErrIs.err 1) 1 _ (HGc.out _ HB2.out)).mono ?_
                rintro e w3 ⟨rfl, hBe⟩
                have HBX := Lib.hid (HB2.out.trans (hBe.mono (by omega)))
                have gc := (hBe.cell (p := ⟨w.heap.size, 0, none⟩) (by simp only; omega)).trans hc2
                have gf := (hBe.frozen (p := ⟨w.heap.size, 0, none⟩) (by simp only; omega)).trans hf2
                have gs := hBe.size
                try simp only [World.size_setCell] at gs
                clear hBe
                go_wp2_with (go_at_call 10; refine (Flow.left_any _ _ _ gc).mono ?_; rintro e w' ⟨rfl, rfl⟩)
                go_roundw
                case rel => first | exact ⟨k + 1, z, by go_num, rfl, rfl, by omega, by omega, by omega, by omega, HBX.out, by omega, gc, gf⟩ | ((repeat apply Exists.intro); exact ⟨⟨k + 1, z, by go_num, rfl, rfl, by omega, by omega, by omega, by omega, HBX.out, by omega, gc, gf⟩, rfl⟩)
                case measure => simp [intOf]; omega
              · skip
                by_cases t2 : 2147483647 < z + x
                · skip
                  go_wp2_with fail
                  refine (Flow.give_any _ z x _ hc2 hf2 (by omega)).mono ?_
                  rintro e w2 (⟨q, rfl, rfl⟩ | ⟨q, q2, q3, rfl, rfl⟩ | ⟨q, q2, q3, rfl, rfl⟩)
                  all_goals (try (exfalso; omega))
                  go_wp2_with fail
                  refine (ToldC.error_any (ToldC.ErrIs.err 10) 10 _ (HGc.out _ HB2.out)).mono ?_
                  rintro e w3 ⟨rfl, hBe⟩
                  have HBX := Lib.hid (HB2.out.trans (hBe.mono (by omega)))
                  have gc := (hBe.cell (p := ⟨w.heap.size, 0, none⟩) (by simp only; omega)).trans hc2
                  have gf := (hBe.frozen (p := ⟨w.heap.size, 0, none⟩) (by simp only; omega)).trans hf2
                  have gs := hBe.size
                  try simp only [World.size_setCell] at gs
                  clear hBe
                  go_wp2_with (go_at_call 10; refine (Flow.left_any _ _ _ gc).mono ?_; rintro e w' ⟨rfl, rfl⟩)
                  go_roundw
                  case rel => first | exact ⟨k + 1, z, by go_num, rfl, rfl, by omega, by omega, by omega, by omega, HBX.out, by omega, gc, gf⟩ | ((repeat apply Exists.intro); exact ⟨⟨k + 1, z, by go_num, rfl, rfl, by omega, by omega, by omega, by omega, HBX.out, by omega, gc, gf⟩, rfl⟩)
                  case measure => simp [intOf]; omega
                · skip
                  go_wp2_with fail
                  refine (Flow.give_any _ z x _ hc2 hf2 (by omega)).mono ?_
                  rintro e w2 (⟨q, rfl, rfl⟩ | ⟨q, q2, q3, rfl, rfl⟩ | ⟨q, q2, q3, rfl, rfl⟩)
                  all_goals (try (exfalso; omega))
                  go_wp2_with fail
                  refine (ToldC.error_any ToldC.ErrIs.nil 0 _ (HGc.out _ (HBS.out _))).mono ?_
                  rintro e w3 ⟨rfl, hBe⟩
                  have HBX := Lib.hid ((HBS.out _).trans (hBe.mono (by simp; omega)))
                  have gc := (hBe.cell (p := ⟨w.heap.size, 0, none⟩) (by simp; omega)).trans (World.cell?_setCell_same _ _ _ hc2)
                  have gf : w3.frozen? ⟨w.heap.size, 0, none⟩ = false := (hBe.frozen (p := ⟨w.heap.size, 0, none⟩) (by simp; omega)).trans (by simp [hf2])
                  have gs := hBe.size
                  try simp only [World.size_setCell] at gs
                  clear hBe
                  go_wp2_with (go_at_call 10; refine (Flow.left_any _ _ _ gc).mono ?_; rintro e w' ⟨rfl, rfl⟩)
                  go_roundw
                  case rel => first | exact ⟨k + 1, z + x, by go_num, rfl, rfl, by omega, by omega, by omega, by omega, HBX.out, by omega, gc, gf⟩ | ((repeat apply Exists.intro); exact ⟨⟨k + 1, z + x, by go_num, rfl, rfl, by omega, by omega, by omega, by omega, HBX.out, by omega, gc, gf⟩, rfl⟩)
                  case measure => simp [intOf]; omega
          · skip
            by_cases t6 : x < 0
            · skip
              go_wp2_with fail
              refine (Flow.shift_any _ z x y _ hc2 hf2 (by omega)).mono ?_
              rintro e w2 (⟨q, rfl, rfl⟩ | ⟨q, q2, q3, q4, q5, rfl, rfl⟩ | ⟨q, q2, q3, q4, q5, rfl, rfl⟩)
              all_goals (try (exfalso; omega))
              go_wp2_with fail
              refine (ToldC.error_any (ToldC.ErrIs.err 1) 1 _ (HGc.out _ HB2.out)).mono ?_
              rintro e w3 ⟨rfl, hBe⟩
              have HBX := Lib.hid (HB2.out.trans (hBe.mono (by omega)))
              have gc := (hBe.cell (p := ⟨w.heap.size, 0, none⟩) (by simp only; omega)).trans hc2
              have gf := (hBe.frozen (p := ⟨w.heap.size, 0, none⟩) (by simp only; omega)).trans hf2
              have gs := hBe.size
              try simp only [World.size_setCell] at gs
              clear hBe
              go_wp2_with (go_at_call 10; refine (Flow.left_any _ _ _ gc).mono ?_; rintro e w' ⟨rfl, rfl⟩)
              go_roundw
              case rel => first | exact ⟨k + 1, z, by go_num, rfl, rfl, by omega, by omega, by omega, by omega, HBX.out, by omega, gc, gf⟩ | ((repeat apply Exists.intro); exact ⟨⟨k + 1, z, by go_num, rfl, rfl, by omega, by omega, by omega, by omega, HBX.out, by omega, gc, gf⟩, rfl⟩)
              case measure => simp [intOf]; omega
            · skip
              by_cases t5 : 2147483647 < x
              · skip
                go_wp2_with fail
                refine (Flow.shift_any _ z x y _ hc2 hf2 (by omega)).mono ?_
                rintro e w2 (⟨q, rfl, rfl⟩ | ⟨q, q2, q3, q4, q5, rfl, rfl⟩ | ⟨q, q2, q3, q4, q5, rfl, rfl⟩)
                all_goals (try (exfalso; omega))
                go_wp2_with fail
                refine (ToldC.error_any (ToldC.ErrIs.err 1) 1 _ (HGc.out _ HB2.out)).mono ?_
                rintro e w3 ⟨rfl, hBe⟩
                have HBX := Lib.hid (HB2.out.trans (hBe.mono (by omega)))
                have gc := (hBe.cell (p := ⟨w.heap.size, 0, none⟩) (by simp only; omega)).trans hc2
                have gf := (hBe.frozen (p := ⟨w.heap.size, 0, none⟩) (by simp only; omega)).trans hf2
                have gs := hBe.size
                try simp only [World.size_setCell] at gs
                clear hBe
                go_wp2_with (go_at_call 10; refine (Flow.left_any _ _ _ gc).mono ?_; rintro e w' ⟨rfl, rfl⟩)
                go_roundw
                case rel => first | exact ⟨k + 1, z, by go_num, rfl, rfl, by omega, by omega, by omega, by omega, HBX.out, by omega, gc, gf⟩ | ((repeat apply Exists.intro); exact ⟨⟨k + 1, z, by go_num, rfl, rfl, by omega, by omega, by omega, by omega, HBX.out, by omega, gc, gf⟩, rfl⟩)
                case measure => simp [intOf]; omega
              · skip
                by_cases t4 : y < 0
                · skip
                  go_wp2_with fail
                  refine (Flow.shift_any _ z x y _ hc2 hf2 (by omega)).mono ?_
                  rintro e w2 (⟨q, rfl, rfl⟩ | ⟨q, q2, q3, q4, q5, rfl, rfl⟩ | ⟨q, q2, q3, q4, q5, rfl, rfl⟩)
                  all_goals (try (exfalso; omega))
                  go_wp2_with fail
                  refine (ToldC.error_any (ToldC.ErrIs.err 1) 1 _ (HGc.out _ HB2.out)).mono ?_
                  rintro e w3 ⟨rfl, hBe⟩
                  have HBX := Lib.hid (HB2.out.trans (hBe.mono (by omega)))
                  have gc := (hBe.cell (p := ⟨w.heap.size, 0, none⟩) (by simp only; omega)).trans hc2
                  have gf := (hBe.frozen (p := ⟨w.heap.size, 0, none⟩) (by simp only; omega)).trans hf2
                  have gs := hBe.size
                  try simp only [World.size_setCell] at gs
                  clear hBe
                  go_wp2_with (go_at_call 10; refine (Flow.left_any _ _ _ gc).mono ?_; rintro e w' ⟨rfl, rfl⟩)
                  go_roundw
                  case rel => first | exact ⟨k + 1, z, by go_num, rfl, rfl, by omega, by omega, by omega, by omega, HBX.out, by omega, gc, gf⟩ | ((repeat apply Exists.intro); exact ⟨⟨k + 1, z, by go_num, rfl, rfl, by omega, by omega, by omega, by omega, HBX.out, by omega, gc, gf⟩, rfl⟩)
                  case measure => simp [intOf]; omega
                · skip
                  by_cases t3 : 2147483647 < y
                  · skip
                    go_wp2_with fail
                    refine (Flow.shift_any _ z x y _ hc2 hf2 (by omega)).mono ?_
                    rintro e w2 (⟨q, rfl, rfl⟩ | ⟨q, q2, q3, q4, q5, rfl, rfl⟩ | ⟨q, q2, q3, q4, q5, rfl, rfl⟩)
                    all_goals (try (exfalso; omega))
                    go_wp2_with fail
                    refine (ToldC.error_any (ToldC.ErrIs.err 1) 1 _ (HGc.out _ HB2.out)).mono ?_
                    rintro e w3 ⟨rfl, hBe⟩
                    have HBX := Lib.hid (HB2.out.trans (hBe.mono (by omega)))
                    have gc := (hBe.cell (p := ⟨w.heap.size, 0, none⟩) (by simp only; omega)).trans hc2
                    have gf := (hBe.frozen (p := ⟨w.heap.size, 0, none⟩) (by simp only; omega)).trans hf2
                    have gs := hBe.size
                    try simp only [World.size_setCell] at gs
                    clear hBe
                    go_wp2_with (go_at_call 10; refine (Flow.left_any _ _ _ gc).mono ?_; rintro e w' ⟨rfl, rfl⟩)
                    go_roundw
                    case rel => first | exact ⟨k + 1, z, by go_num, rfl, rfl, by omega, by omega, by omega, by omega, HBX.out, by omega, gc, gf⟩ | ((repeat apply Exists.intro); exact ⟨⟨k + 1, z, by go_num, rfl, rfl, by omega, by omega, by omega, by omega, HBX.out, by omega, gc, gf⟩, rfl⟩)
                    case measure => simp [intOf]; omega
                  · skip
                    by_cases t2 : 2147483647 < z + y - x
                    · skip
                      go_wp2_with fail
                      refine (Flow.shift_any _ z x y _ hc2 hf2 (by omega)).mono ?_
                      rintro e w2 (⟨q, rfl, rfl⟩ | ⟨q, q2, q3, q4, q5, rfl, rfl⟩ | ⟨q, q2, q3, q4, q5, rfl, rfl⟩)
                      all_goals (try (exfalso; omega))
                      go_wp2_with fail
                      refine (ToldC.error_any (ToldC.ErrIs.err 10) 10 _ (HGc.out _ HB2.out)).mono ?_
                      rintro e w3 ⟨rfl, hBe⟩
                      have HBX := Lib.hid (HB2.out.trans (hBe.mono (by omega)))
                      have gc := (hBe.cell (p := ⟨w.heap.size, 0, none⟩) (by simp only; omega)).trans hc2
                      have gf := (hBe.frozen (p := ⟨w.heap.size, 0, none⟩) (by simp only; omega)).trans hf2
                      have gs := hBe.size
                      try simp only [World.size_setCell] at gs
                      clear hBe
                      go_wp2_with (go_at_call 10; refine (Flow.left_any _ _ _ gc).mono ?_; rintro e w' ⟨rfl, rfl⟩)
                      go_roundw
                      case rel => first | exact ⟨k + 1, z, by go_num, rfl, rfl, by omega, by omega, by omega, by omega, HBX.out, by omega, gc, gf⟩ | ((repeat apply Exists.intro); exact ⟨⟨k + 1, z, by go_num, rfl, rfl, by omega, by omega, by omega, by omega, HBX.out, by omega, gc, gf⟩, rfl⟩)
                      case measure => simp [intOf]; omega
                    · skip
                      go_wp2_with fail
                      refine (Flow.shift_any _ z x y _ hc2 hf2 (by omega)).mono ?_
                      rintro e w2 (⟨q, rfl, rfl⟩ | ⟨q, q2, q3, q4, q5, rfl, rfl⟩ | ⟨q, q2, q3, q4, q5, rfl, rfl⟩)
                      all_goals (try (exfalso; omega))
                      go_wp2_with fail
                      refine (ToldC.error_any ToldC.ErrIs.nil 0 _ (HGc.out _ (HBS.out _))).mono ?_
                      rintro e w3 ⟨rfl, hBe⟩
                      have HBX := Lib.hid ((HBS.out _).trans (hBe.mono (by simp; omega)))
                      have gc := (hBe.cell (p := ⟨w.heap.size, 0, none⟩) (by simp; omega)).trans (World.cell?_setCell_same _ _ _ hc2)
                      have gf : w3.frozen? ⟨w.heap.size, 0, none⟩ = false := (hBe.frozen (p := ⟨w.heap.size, 0, none⟩) (by simp; omega)).trans (by simp [hf2])
                      have gs := hBe.size
                      try simp only [World.size_setCell] at gs
                      clear hBe
                      rw [show z + (y - x) = z + y - x by omega] at gc
                      go_wp2_with (go_at_call 10; refine (Flow.left_any _ _ _ gc).mono ?_; rintro e w' ⟨rfl, rfl⟩)
                      go_roundw
                      case rel => first | exact ⟨k + 1, z + y - x, by go_num, rfl, rfl, by omega, by omega, by omega, by omega, HBX.out, by omega, gc, gf⟩ | ((repeat apply Exists.intro); exact ⟨⟨k + 1, z + y - x, by go_num, rfl, rfl, by omega, by omega, by omega, by omega, HBX.out, by omega, gc, gf⟩, rfl⟩)
                      case measure => simp [intOf]; omega
          · skip
            go_wp2
            go_roundw
            case rel => first | exact ⟨k + 1, z, by go_num, rfl, rfl, by omega, by omega, by omega, by omega, HB2.out, by omega, hc2, hf2⟩ | ((repeat apply Exists.intro); exact ⟨⟨k + 1, z, by go_num, rfl, rfl, by omega, by omega, by omega, by omega, HB2.out, by omega, hc2, hf2⟩, rfl⟩)
            case measure => simp [intOf]; omega
      · go_wp2
        all_goals go_ret
        all_goals exact ⟨rfl, hB⟩
  · have P := Lib.hid (ToldC.error_any (ToldC.ErrIs.err 1) 1 w hg)
    clear hg w1
    go_enter Tryd.func3, Tryd.ntmps3
    go_wp2_with (go_at_call 5; refine (Flow.new_bad _ (by omega) _).mono ?_; rintro e w' ⟨rfl, rfl⟩)
    all_goals refine P.out.mono ?_
    all_goals rintro e w' ⟨rfl, hBe⟩
    all_goals go_wp2
    all_goals go_ret
    all_goals exact ⟨by simp, hBe⟩
end Go.Proofs.YtpbaanoheeghlaaDoor.WalkFlowPlays
