/-
  The walk of the law LogSums.
  Conditions: errors.errorType holds the handle of the type error; the slices read as entries and ints.
-/
import Derived.Test.YtcpkikillmmjcaaGreatDoorLogTopA
import Derived.Test.YtcpkikillmmjcaaGreatDoorLogCount
import Derived.Test.YtcpkikillmmjcaaGreatDoorLogEntries
import Derived.Test.YtcpkikillmmjcaaGreatDoorLogSumsP
import Derived.Test.YtcpkikillmmjcaaGreatDoorTold
import Derived.Deep.QuietTactic
import Derived.BigQuiet
namespace Go.Proofs.YtcpkikillmmjcaaGreatDoor.WalkLogSums
open Go.RowKit LogC LogP RowsK Args LineC ToldC LogTopP
set_option linter.unusedVariables false
set_option linter.unusedSimpArgs false

theorem below_drewN {B : Nat} {w w' : World} (h : Below B w w') (n : Nat) : Below B w (w'.drewN n) := ⟨h.os, h.tape, h.output, h.size, h.block⟩
theorem told_same (k : Int) (w : World) (hg : w.cell? ⟨0, 0, none⟩ = some (.iface 133 (.agg #[.pointer (some ⟨9, 27, none⟩)]))) :
    Calls Tryz.prog 9 #[errV k, .int .i64 k] w fun e w' => e = .returned (.bool true) ∧ Below w.heap.size w w' := by
  have h : ErrIs (errV k) k := by
    unfold errV
    by_cases hk : k = 0
    · subst hk; exact .nil
    · rw [if_neg hk]; exact .err k
  refine (error_any h k w hg).mono ?_
  rintro e w' ⟨rfl, hB⟩
  exact ⟨by simp, hB⟩
theorem rank_same (v : Value) (zs : List Int) (part : Int) (w : World) (h : Args.RowAt w v (zs.map (Value.int .i64))) :
    Calls Tryz.prog 14 #[v, .int .i64 part] w fun e w' => e = .returned (.tuple #[.int .i64 (rankR zs part), errV (rankE zs.length part)]) ∧ Below w.heap.size w w' := by
  unfold rankR
  by_cases hz : rankE zs.length part = 0
  · rw [if_pos hz, hz]
    exact rank_ok v zs part w h hz
  · rw [if_neg hz, show errV (rankE zs.length part) = _ from if_neg hz]
    exact rank_bad v zs part w h hz
set_option maxRecDepth 100000 in
set_option maxHeartbeats 16000000 in
theorem walk0 (a0 : Option Addr) (n0 c0 : Nat) (l : List En) (f t : Int) (a3 : Option Addr) (n3 c3 : Nat) (nums : List Int) (part many : Int) (w : World)
    (h : EntrysAt w (.slice a0 n0 c0) l) (hf : I64 f) (ht : I64 t) (hn : IntsAt w (.slice a3 n3 c3) nums) (hp : I64 part) (hm : I64 many)
    (hg : w.cell? ⟨0, 0, none⟩ = some (.iface 133 (.agg #[.pointer (some ⟨9, 27, none⟩)]))) :
    Calls Tryz.prog 4 #[.slice a0 n0 c0, .int .i64 f, .int .i64 t, .slice a3 n3 c3, .int .i64 part, .int .i64 many] w fun e w' => e = .returned (.bool true) ∧ Below w.heap.size w w' := by
  have HA := Lib.hid h
  have HTS := Lib.hid (fun k W (hB : Below w.heap.size w W) => told_same k W ((hB.cell (p := ⟨0, 0, none⟩) (block_lt_of_cell hg)).trans hg))
  have HEN := Lib.hid (fun W (hB : Below w.heap.size w W) => rentries_any _ l W (cell_back (B := 0) h.1 hB) h.2)
  have HSU := Lib.hid (fun W (hB : Below w.heap.size w W) => sum_any _ l f t W (cell_back (B := 0) h.1 hB))
  have hln : n0 = l.length := (at_cells h.1).1
  have HLN := Lib.hid hln
  obtain ⟨k0, hk0⟩ : ∃ k, allE l = k := ⟨_, rfl⟩
  have HK0 := Lib.hid hk0
  rw [hk0] at HEN
  rw [sumV_eq, hk0] at HSU
  obtain ⟨x1, hx1⟩ : ∃ x, s1 l f t = x := ⟨_, rfl⟩
  obtain ⟨x2, hx2⟩ : ∃ x, s2 l f t = x := ⟨_, rfl⟩
  obtain ⟨x3, hx3⟩ : ∃ x, s3 l f t = x := ⟨_, rfl⟩
  have HX := Lib.hid (And.intro hx1 (And.intro hx2 hx3))
  rw [hx1, hx2, hx3] at HSU
  have hnl : n3 = nums.length := by obtain ⟨a', cap, e, -⟩ := hn.open; cases e; rfl
  have HNL := Lib.hid hnl
  have HIN := Lib.hid hn
  have HRK := Lib.hid (fun W (hB : Below w.heap.size w W) => rank_same _ nums part W (hn.below hB).1)
  obtain ⟨k3, hk3⟩ : ∃ x, rankE nums.length part = x := ⟨_, rfl⟩
  obtain ⟨r3, hr3⟩ : ∃ x, rankR nums part = x := ⟨_, rfl⟩
  have H3 := Lib.hid (And.intro hk3 hr3)
  rw [hk3, hr3] at HRK
  obtain ⟨bp, hbp⟩ : ∃ b, decide (part < 1 ∨ 100 < part) = b := ⟨_, rfl⟩
  have HBP := Lib.hid hbp
  clear hbp
  obtain ⟨bm, hbm⟩ : ∃ b, decide (many < 1 ∨ 100 < many) = b := ⟨_, rfl⟩
  have HBM := Lib.hid hbm
  clear hbm
  clear h hg hln hk0 hx1 hx2 hx3 hk3 hr3 hn hnl
  have HB0 : Hid (Below w.heap.size w (w.alloc (.cells #[.slice a0 n0 c0] 36))) := (Below.refl _ _).alloc (Nat.le_refl _) _
  go_enter Tryz.func4, Tryz.ntmps4
  go_upto_block 0 with (first
    | (go_at_call 12; (with_reducible refine (HEN.out _ HB0.out).mono ?_); rintro e w1 ⟨rfl, hB1⟩; have g0 : w1.cell? ⟨w.heap.size, 0, none⟩ = some (.slice a0 n0 c0) := (hB1.cell (p := ⟨w.heap.size, 0, none⟩) (by simp)).trans (by simp); have HB1 := Lib.hid (HB0.out.trans (hB1.mono HB0.out.size)); have HG1 : Hid (w.heap.size < w1.heap.size) := (by have := hB1.size; simp at this; show _ < _; omega); clear hB1)
    | fail)
  go_cut [14, 15, 16, 17] from 50 to 92 (fun v14 v15 v16 _ wx => v14 = .int .i64 x1 ∧ v15 = .int .i64 x2 ∧ v16 = .int .i64 x3 ∧ w1 = wx)
  case first => as_aux_lemma =>
    have g1 := g0
    clear HTS HEN HSU HRK hf ht hp hm
    go_wp2_with fail
    go_loop [14, 15, 16, 17] (fun v6 v7 v8 i => ∃ (k : Nat) (x y z : Int), v6 = .int .i64 x ∧ v7 = .int .i64 y ∧ v8 = .int .i64 z ∧ i = .int .i64 (k : Int) ∧ k ≤ n0 ∧ Hid ((k0 ≠ 0 → k = 0) ∧ x = cntS (l.take k) f t ∧ y = bytS (l.take k) f t ∧ z = badS (l.take k) f t)) (fun _ _ _ i => n0 - (intOf i).toNat)
    case atStart => exact ⟨0, 0, 0, 0, rfl, rfl, rfl, rfl, by omega, fun _ => rfl, by simp [cntS], by simp [bytS], by simp [badS]⟩
    case round =>
      obtain ⟨k, x, y, z, rfl, rfl, rfl, rfl, hk, HR⟩ := hrel
      have HRR := HR
      clear HR
      by_cases hz : k0 = 0
      · subst hz
        have hcz : n0 ≤ 1000 ∧ ∀ e ∈ l, checkE e = 0 := by
          have hz := HK0.out
          unfold allE at hz
          rw [HLN.out]
          by_cases h1 : 1000 < l.length
          · rw [if_pos h1] at hz; exact absurd hz (by decide)
          · rw [if_neg h1] at hz
            exact ⟨by omega, fun e he => firstE_zero _ hz _ (List.mem_map.2 ⟨e, he, rfl⟩)⟩
        have hn1 := hcz.1
        have HCZ := Lib.hid hcz.2
        clear hcz
        by_cases hlt : k < n0
        · have hlt2 : (k : Int) < (n0 : Int) := by omega
          have hk0 : (0 : Int) ≤ (k : Int) := by omega
          have hkl : k < l.length := by rw [← HLN.out]; exact hlt
          obtain ⟨b, off, rfl, hb, c0, c1, c2, c3, c4, c5⟩ := (at_cells HA.out.1).2.2 k hkl
          have y0 := (HB1.out.cell (p := ⟨b, off + k * 6, none⟩) hb).trans c0
          have y1 := (HB1.out.cell (p := ⟨b, off + k * 6 + 1, none⟩) hb).trans c1
          have y2 := (HB1.out.cell (p := ⟨b, off + k * 6 + 2, none⟩) hb).trans c2
          have hbd := sums_bd f t (l.take k) (fun e he => HCZ.out e (List.mem_of_mem_take he))
          have hsn := sums_snoc l k hkl f t
          have hcb := (rangeE_bd (check_parts (HCZ.out l[k] (List.getElem_mem hkl))).1).2.2.1
          obtain ⟨en, hen⟩ : ∃ en, l[k] = en := ⟨_, rfl⟩
          rw [hen] at y0 y1 y2 hsn hcb
          rw [List.length_take, Nat.min_eq_left (by omega), ← HRR.out.2.1, ← HRR.out.2.2.1, ← HRR.out.2.2.2] at hbd
          rw [← HRR.out.2.1, ← HRR.out.2.2.1, ← HRR.out.2.2.2] at hsn
          have HSN := Lib.hid hsn
          have hxb : 0 ≤ x ∧ x ≤ 1000 := by omega
          have hyb : 0 ≤ y ∧ y ≤ 1000000000 := by omega
          have hzb : 0 ≤ z ∧ z ≤ 1000 := by omega
          clear c0 c1 c2 c3 c4 c5 hen hbd hsn
          by_cases t1 : f ≤ en.time
          · have q1 : decide (f ≤ en.time) = true := decide_eq_true t1
            by_cases t2 : en.time < t
            · have q2 : decide (en.time < t) = true := decide_eq_true t2
              have hp : inB f t en = true := by simp [inB]; omega
              have HP := Lib.hid (HSN.out.2 hp)
              clear hp
              have w1' : IntKind.i64.wrap (x + 1) = x + 1 := IntWalk.i64_in _ (by omega)
              have w2' : IntKind.i64.wrap (y + en.bytes) = y + en.bytes := IntWalk.i64_in _ (by omega)
              have w3' : IntKind.i64.wrap (z + 1) = z + 1 := IntWalk.i64_in _ (by omega)
              by_cases t3 : 500 ≤ en.code
              · have q3 : decide (500 ≤ en.code) = true := decide_eq_true t3
                go_wp2_with fail
                go_round
                case rel => exact ⟨k + 1, x + 1, y + en.bytes, z + 1, by simp, by simp, by simp, by simp, by omega, fun h => absurd rfl h, HP.out.1.symm, HP.out.2.1.symm, by rw [HP.out.2.2, if_pos t3]⟩
                case measure => simp [intOf]; omega
              · have q3 : decide (500 ≤ en.code) = false := decide_eq_false t3
                go_wp2_with fail
                go_round
                case rel => exact ⟨k + 1, x + 1, y + en.bytes, z, by simp, by simp, rfl, by simp, by omega, fun h => absurd rfl h, HP.out.1.symm, HP.out.2.1.symm, by rw [HP.out.2.2, if_neg t3]; omega⟩
                case measure => simp [intOf]; omega
            · have q2 : decide (en.time < t) = false := decide_eq_false t2
              have hp : inB f t en = false := by simp [inB]; omega
              have HP := Lib.hid (HSN.out.1 hp)
              clear hp
              go_wp2_with fail
              go_round
              case rel => exact ⟨k + 1, x, y, z, rfl, rfl, rfl, by simp, by omega, fun h => absurd rfl h, HP.out.1.symm, HP.out.2.1.symm, HP.out.2.2.symm⟩
              case measure => simp [intOf]; omega
          · have q1 : decide (f ≤ en.time) = false := decide_eq_false t1
            have hp : inB f t en = false := by simp [inB]; omega
            have HP := Lib.hid (HSN.out.1 hp)
            clear hp
            go_wp2_with fail
            go_round
            case rel => exact ⟨k + 1, x, y, z, rfl, rfl, rfl, by simp, by omega, fun h => absurd rfl h, HP.out.1.symm, HP.out.2.1.symm, HP.out.2.2.symm⟩
            case measure => simp [intOf]; omega
        · obtain rfl : k = n0 := by omega
          have hlt2 : ¬ (k : Int) < (k : Int) := by omega
          have HE : Hid (x = x1 ∧ y = x2 ∧ z = x3) := by
            obtain ⟨h1, h2, h3, h4⟩ := HRR.out
            obtain ⟨e1, e2, e3⟩ := HX.out
            rw [HLN.out, List.take_length] at h2 h3 h4
            unfold s1 at e1; unfold s2 at e2; unfold s3 at e3
            rw [if_pos HK0.out] at e1 e2 e3
            exact ⟨h2.trans e1, h3.trans e2, h4.trans e3⟩
          go_wp2_with fail
          go_meet
          exact ⟨by rw [HE.out.1], by rw [HE.out.2.1], by rw [HE.out.2.2], rfl⟩
      · obtain rfl : k = 0 := HRR.out.1 hz
        have hz2 : (k0 == 0) = false := beq_eq_false_iff_ne.2 hz
        have HE : Hid (x = x1 ∧ y = x2 ∧ z = x3) := by
          obtain ⟨h1, h2, h3, h4⟩ := HRR.out
          obtain ⟨e1, e2, e3⟩ := HX.out
          unfold s1 at e1; unfold s2 at e2; unfold s3 at e3
          rw [if_neg (by rw [HK0.out]; exact hz)] at e1 e2 e3
          show x = x1 ∧ y = x2 ∧ z = x3
          rw [h2, h3, h4, ← e1, ← e2, ← e3]
          simp [cntS, bytS, badS]
        clear hz
        by_cases hlt : 0 < n0
        · have hlt2 : (0 : Int) < (n0 : Int) := by omega
          go_wp2_with fail
          go_meet
          exact ⟨by rw [HE.out.1], by rw [HE.out.2.1], by rw [HE.out.2.2], rfl⟩
        · obtain rfl : n0 = 0 := by omega
          go_wp2_with fail
          go_meet
          exact ⟨by rw [HE.out.1], by rw [HE.out.2.1], by rw [HE.out.2.2], rfl⟩
  obtain ⟨rfl, rfl, rfl, rfl⟩ := hcut
  go_upto_region 17 with (first
    | (go_at_call 13; (with_reducible refine (HSU.out _ HB1.out).mono ?_); rintro e w2 ⟨rfl, hB2⟩; have g2 : w2.cell? ⟨w.heap.size, 0, none⟩ = some (.slice a0 n0 c0) := (hB2.cell (p := ⟨w.heap.size, 0, none⟩) HG1.out).trans g0; have HG2 : Hid (w.heap.size < w2.heap.size) := Nat.lt_of_lt_of_le HG1.out hB2.size; have HB2 := Lib.hid (HB1.out.trans (hB2.mono HB1.out.size)); clear hB2)
    | (go_at_call 9; (with_reducible refine (HTS.out k0 _ HB2.out).mono ?_); rintro e w3 ⟨rfl, hB3⟩; have g3 : w3.cell? ⟨w.heap.size, 0, none⟩ = some (.slice a0 n0 c0) := (hB3.cell (p := ⟨w.heap.size, 0, none⟩) HG2.out).trans g2; have HG3 : Hid (w.heap.size < w3.heap.size) := Nat.lt_of_lt_of_le HG2.out hB3.size; have HB3 := Lib.hid (HB2.out.trans (hB3.mono HB2.out.size)); clear hB3)
    | fail)
  clear g0 g2 HB1 HB2 HG1 HG2 HSU HX HEN
  go_upto_region 19 with fail
  go_cut [127] from 122 to 127 (fun v wx => v = .bool bp ∧ w3 = wx)
  case first => as_aux_lemma =>
    clear HTS g3 hf ht hm HLN HK0 HB0 HRK H3 HNL HIN
    by_cases p1 : part < 1
    · have d1 : decide (part < 1) = true := decide_eq_true p1
      have HE : Hid (bp = true) := by show _ = _; rw [← HBP.out]; exact decide_eq_true (Or.inl p1)
      go_wp2_with fail
      go_meet
      exact ⟨by rw [HE.out], rfl⟩
    · have d1 : decide (part < 1) = false := decide_eq_false p1
      by_cases p2 : 100 < part
      · have d2 : decide (100 < part) = true := decide_eq_true p2
        have HE : Hid (bp = true) := by show _ = _; rw [← HBP.out]; exact decide_eq_true (Or.inr p2)
        go_wp2_with fail
        go_meet
        exact ⟨by rw [HE.out], rfl⟩
      · have d2 : decide (100 < part) = false := decide_eq_false p2
        have HE : Hid (bp = false) := by show _ = _; rw [← HBP.out]; exact decide_eq_false (by omega)
        go_wp2_with fail
        go_meet
        exact ⟨by rw [HE.out], rfl⟩
  obtain ⟨rfl, rfl⟩ := hcut
  go_upto_if 127 with fail
  go_cut [23, 24, 25, 26, 27, 28, 29] from 127 to 185 (fun v23 v24 _ _ _ _ _ wx => v23 = .int .i64 k3 ∧ v24 = .int .i64 r3 ∧ Hid (Below w3.heap.size w3 wx))
  case first => as_aux_lemma =>
    clear HTS g3 hf ht hm HLN HK0 HB0
    cases bp with
    | true =>
        have p2 := of_decide_eq_true HBP.out
        have HE : Hid (k3 = 1 ∧ r3 = 0) := by
          obtain ⟨e1, e2⟩ := H3.out
          have e3 : rankE nums.length part = 1 := by unfold rankE; rw [if_pos p2]
          refine ⟨by rw [← e1, e3], ?_⟩
          rw [← e2]; unfold rankR; rw [e3]; rfl
        clear p2
        go_wp2_with fail
        go_meet
        exact ⟨by rw [HE.out.1], by rw [HE.out.2], Below.refl _ _⟩
    | false =>
        have p2 := of_decide_eq_false HBP.out
        by_cases p3 : 1000 < n3
        · have d3 : (1000 : Int) < (n3 : Int) := by omega
          have HE : Hid (k3 = 4 ∧ r3 = 0) := by
            obtain ⟨e1, e2⟩ := H3.out
            have e3 : rankE nums.length part = 4 := by unfold rankE; rw [if_neg (by omega), if_pos (by have := HNL.out; omega)]
            refine ⟨by rw [← e1, e3], ?_⟩
            rw [← e2]; unfold rankR; rw [e3]; rfl
          go_wp2_with fail
          go_meet
          exact ⟨by rw [HE.out.1], by rw [HE.out.2], Below.refl _ _⟩
        · have d3 : ¬ (1000 : Int) < (n3 : Int) := by omega
          by_cases p4 : n3 = 0
          · have HE : Hid (k3 = 5 ∧ r3 = 0) := by
              obtain ⟨e1, e2⟩ := H3.out
              have e3 : rankE nums.length part = 5 := by have := HNL.out; unfold rankE; rw [if_neg (by omega), if_neg (by omega), if_pos (by omega)]
              refine ⟨by rw [← e1, e3], ?_⟩
              rw [← e2]; unfold rankR; rw [e3]; rfl
            subst p4
            go_wp2_with fail
            go_meet
            exact ⟨by rw [HE.out.1], by rw [HE.out.2], Below.refl _ _⟩
          · have d4 : ((n3 : Int) == 0) = false := by rw [beq_eq_false_iff_ne]; omega
            have hnl := HNL.out
            have e0 : rankE nums.length part = 0 := by unfold rankE; rw [if_neg (by omega), if_neg (by omega), if_neg (by omega)]
            have hlaw := rank_law nums part (by omega) (by omega) (by omega)
            have hbd := placeI_bd (n := n3) (part := part) (by omega) (by omega) (by omega)
            rw [← hnl] at hlaw
            have HE : Hid (k3 = 0 ∧ r3 = rankV nums part) := by
              obtain ⟨e1, e2⟩ := H3.out
              refine ⟨by rw [← e1, e0], ?_⟩
              rw [← e2]; unfold rankR; rw [if_pos e0]
            rw [← HE.out.2] at hlaw
            have m1 : (n3 : Int) * 1 ≤ n3 * part := Int.mul_le_mul_of_nonneg_left (by omega) (by omega)
            have m2 : (n3 : Int) * part ≤ n3 * 100 := Int.mul_le_mul_of_nonneg_left (by omega) (by omega)
            have m3 : 0 ≤ (n3 : Int) * part := by omega
            have m4 : (n3 : Int) * part ≤ 100000 := by omega
            have hwr : IntKind.i64.wrap ((n3 : Int) * part) = (n3 : Int) * part := IntWalk.i64_in _ (by omega)
            have HLAW := Lib.hid hlaw
            have HBD := Lib.hid hbd
            have HWR := Lib.hid hwr
            have hn1 : n3 ≤ 1000 := by omega
            have hn2 : 0 < n3 := by omega
            clear hlaw hbd m1 m2 e0 p2 p3 p4 hnl
            go_upto_region 26 with fail
            clear m3 m4
            obtain ⟨P, hP⟩ : ∃ P, ((n3 : Int) * part + 99) / 100 = P := ⟨_, rfl⟩
            rw [hP]
            have hP1 : 1 ≤ P ∧ P ≤ n3 := by have := HBD.out; unfold placeI at this; rw [hP] at this; exact this
            have HLP : Hid (r3 ∈ nums ∧ ∀ x, ((lessN nums x : Int) < P ∧ P ≤ (uptoN nums x : Int)) ↔ x = r3) := by have := HLAW.out; unfold placeI at this; rw [hP] at this; exact this
            have HNS : Hid (∀ i, i < n3 → ∃ b off, a3 = some ⟨b, off, none⟩ ∧ b < w.heap.size ∧ w.cell? ⟨b, off + i, none⟩ = some (.int .i64 (nums.getD i 0)) ∧ I64 (nums.getD i 0)) := by
              intro i hi
              obtain ⟨a', cap, e, -, -, hh⟩ := HIN.out.open
              simp only [Value.slice.injEq] at e
              rw [e.1]
              exact hh i (by have := HNL.out; omega)
            clear hP HBD HLAW HWR hwr
            go_wp2_with fail
            go_loopw [24, 26, 27, 28, 29] (fun v24 v26 _ _ _ wr => ∃ (k : Nat) (y : Int), v24 = .int .i64 y ∧ v26 = .int .i64 (k : Int) ∧ k ≤ n3 ∧ Hid ((y = if r3 ∈ nums.take k then r3 else 0) ∧ Below w3.heap.size w3 wr)) (fun _ i _ _ _ _ => n3 - (intOf i).toNat)
            case atStart => exact ⟨0, 0, rfl, rfl, by omega, by simp, Below.refl _ _⟩
            case round =>
              obtain ⟨k, y, rfl, rfl, hk, HR⟩ := hrel
              have HRR := HR
              clear HR
              obtain ⟨wo, hwo⟩ : ∃ wo : World, wo = wr := ⟨_, rfl⟩
              subst hwo
              by_cases hlt : k < n3
              · have hlt2 : (k : Int) < (n3 : Int) := by omega
                have hk0 : (0 : Int) ≤ (k : Int) := by omega
                obtain ⟨b, off, rfl, hb, hx, -⟩ := HNS.out k hlt
                have hb3 : b < w3.heap.size := Nat.lt_of_lt_of_le hb HB3.out.size
                have q0 := (HRR.out.2.cell (p := ⟨b, off + k, none⟩) hb3).trans ((HB3.out.cell (p := ⟨b, off + k, none⟩) hb).trans hx)
                have HQ0 := Lib.hid ((HB3.out.cell (p := ⟨b, off + k, none⟩) hb).trans hx)
                obtain ⟨x, hxe⟩ : ∃ x, nums.getD k 0 = x := ⟨_, rfl⟩
                rw [hxe] at q0 HQ0
                have HXE := Lib.hid hxe
                clear hx hxe
                go_wp2_with fail
                go_loopw [27, 28, 29] (fun v27 v28 v29 wi => ∃ j a b : Nat, v27 = .int .i64 (a : Int) ∧ v28 = .int .i64 (b : Int) ∧ v29 = .int .i64 (j : Int) ∧ j ≤ n3 ∧ a ≤ 1000 ∧ b ≤ 1000 ∧ Hid (a = lessN (nums.take j) x ∧ b = uptoN (nums.take j) x ∧ Below w3.heap.size w3 wi)) (fun _ _ v29 _ => n3 - (intOf v29).toNat)
                case atStart => exact ⟨0, 0, 0, rfl, rfl, rfl, by omega, by omega, by omega, by simp [lessN], by simp [uptoN], HRR.out.2⟩
                case round =>
                  obtain ⟨j, A, U, rfl, rfl, rfl, hj, hA, hU, HR⟩ := hrel
                  have HI := HR
                  clear HR q0
                  obtain ⟨wi, hwi⟩ : ∃ wi : World, wi = wr := ⟨_, rfl⟩
                  subst hwi
                  have q1 := (HI.out.2.2.cell (p := ⟨b, off + k, none⟩) hb3).trans HQ0.out
                  by_cases hjl : j < n3
                  · have hjl2 : (j : Int) < (n3 : Int) := by omega
                    have hj0 : (0 : Int) ≤ (j : Int) := by omega
                    obtain ⟨b', off', e', hb', hz, -⟩ := HNS.out j hjl
                    simp only [Option.some.injEq, Addr.mk.injEq] at e'
                    obtain ⟨rfl, rfl, -⟩ := e'
                    have q2 := (HI.out.2.2.cell (p := ⟨b, off + j, none⟩) hb3).trans ((HB3.out.cell (p := ⟨b, off + j, none⟩) hb).trans hz)
                    have hjn : j < nums.length := by have := HNL.out; omega
                    have hts : nums.take (j + 1) = nums.take j ++ [nums.getD j 0] := by rw [List.take_succ_eq_append_getElem hjn, List.getD_eq_getElem?_getD, List.getElem?_eq_getElem hjn]; rfl
                    obtain ⟨z, hze⟩ : ∃ z, nums.getD j 0 = z := ⟨_, rfl⟩
                    rw [hze] at q2 hts
                    have hl1 := lessN_snoc (nums.take j) z x
                    have hu1 := uptoN_snoc (nums.take j) z x
                    have hl2 := lessN_le (nums.take (j + 1)) x
                    have hu2 := uptoN_le (nums.take (j + 1)) x
                    rw [List.length_take] at hl2 hu2
                    rw [← hts] at hl1 hu1
                    rw [← HI.out.1] at hl1
                    rw [← HI.out.2.1] at hu1
                    have HL1 := Lib.hid (And.intro hl1 (And.intro hu1 (And.intro hl2 hu2)))
                    clear hz hze hts hl1 hu1 hl2 hu2 hjn hb'
                    by_cases c1 : z < x
                    · have d1 : decide (z < x) = true := decide_eq_true c1
                      have d2 : decide (z ≤ x) = true := decide_eq_true (by omega)
                      have hA9 : A ≤ 999 ∧ U ≤ 999 := by have h := HL1.out; rw [if_pos c1, if_pos (by omega : z ≤ x)] at h; omega
                      have HN : Hid (A + 1 = lessN (nums.take (j + 1)) x ∧ U + 1 = uptoN (nums.take (j + 1)) x) := by have h := HL1.out; rw [if_pos c1, if_pos (by omega : z ≤ x)] at h; exact ⟨h.1.symm, h.2.1.symm⟩
                      go_wp2_with fail
                      go_quiet (fail)
                      go_wp2_with fail
                      go_quiet (fail)
                      go_wp2_with fail
                      go_roundw
                      case rel => exact ⟨j + 1, A + 1, U + 1, by go_num, by go_num, by go_num, by omega, by omega, by omega, HN.out.1, HN.out.2, below_drewN HI.out.2.2 _⟩
                      case measure => simp [intOf]; omega
                    · have d1 : decide (z < x) = false := decide_eq_false c1
                      by_cases c2 : z ≤ x
                      · have d2 : decide (z ≤ x) = true := decide_eq_true c2
                        have hA9 : U ≤ 999 := by have h := HL1.out; rw [if_neg c1, if_pos c2] at h; omega
                        have HN : Hid (A = lessN (nums.take (j + 1)) x ∧ U + 1 = uptoN (nums.take (j + 1)) x) := by have h := HL1.out; rw [if_neg c1, if_pos c2] at h; exact ⟨h.1.symm, h.2.1.symm⟩
                        go_wp2_with fail
                        go_quiet (fail)
                        go_wp2_with fail
                        go_quiet (fail)
                        go_wp2_with fail
                        go_roundw
                        case rel => exact ⟨j + 1, A, U + 1, rfl, by go_num, by go_num, by omega, by omega, by omega, HN.out.1, HN.out.2, below_drewN HI.out.2.2 _⟩
                        case measure => simp [intOf]; omega
                      · have d2 : decide (z ≤ x) = false := decide_eq_false c2
                        have HN : Hid (A = lessN (nums.take (j + 1)) x ∧ U = uptoN (nums.take (j + 1)) x) := by have h := HL1.out; rw [if_neg c1, if_neg c2] at h; exact ⟨h.1.symm, h.2.1.symm⟩
                        go_wp2_with fail
                        go_quiet (fail)
                        go_wp2_with fail
                        go_quiet (fail)
                        go_wp2_with fail
                        go_roundw
                        case rel => exact ⟨j + 1, A, U, rfl, rfl, by go_num, by omega, by omega, by omega, HN.out.1, HN.out.2, below_drewN HI.out.2.2 _⟩
                        case measure => simp [intOf]; omega
                  · obtain rfl : j = n3 := by omega
                    have hjl2 : ¬ (j : Int) < (j : Int) := by omega
                    have hkn : k < nums.length := by have := HNL.out; omega
                    have hts : nums.take (k + 1) = nums.take k ++ [x] := by rw [List.take_succ_eq_append_getElem hkn, ← HXE.out, List.getD_eq_getElem?_getD, List.getElem?_eq_getElem hkn]; rfl
                    have HAU : Hid (A = lessN nums x ∧ U = uptoN nums x) := by have h := HI.out; rw [HNL.out, List.take_length] at h; exact ⟨h.1, h.2.1⟩
                    have hlaw := HLP.out.2 x
                    rw [← HAU.out.1, ← HAU.out.2] at hlaw
                    have HTS2 := Lib.hid hts
                    have HBI := Lib.hid HI.out.2.2
                    clear hts hkn HI
                    by_cases hxr : x = r3
                    · have h2 := hlaw.2 hxr
                      have d1 : decide ((A : Int) < P) = true := decide_eq_true h2.1
                      have d2 : decide (P ≤ (U : Int)) = true := decide_eq_true h2.2
                      have HY : Hid (x = if r3 ∈ nums.take (k + 1) then r3 else 0) := by show _ = _; rw [HTS2.out, if_pos (by simp [hxr])]; exact hxr
                      clear hlaw hxr h2
                      go_wp2_with fail
                      go_roundw
                      case rel => exact ⟨k + 1, x, rfl, by go_num, by omega, HY.out, HBI.out⟩
                      case measure => simp [intOf]; omega
                    · have HY : Hid (y = if r3 ∈ nums.take (k + 1) then r3 else 0) := by
                        show _ = _
                        rw [HTS2.out, HRR.out.1]
                        by_cases hm : r3 ∈ nums.take k
                        · rw [if_pos hm, if_pos (by simp [hm])]
                        · rw [if_neg hm, if_neg (by simp [hm]; exact fun e => hxr e.symm)]
                      by_cases h1 : (A : Int) < P
                      · have d1 : decide ((A : Int) < P) = true := decide_eq_true h1
                        have d2 : decide (P ≤ (U : Int)) = false := decide_eq_false (fun h => hxr (hlaw.1 ⟨h1, h⟩))
                        clear hlaw hxr
                        go_wp2_with fail
                        go_roundw
                        case rel => exact ⟨k + 1, y, rfl, by go_num, by omega, HY.out, HBI.out⟩
                        case measure => simp [intOf]; omega
                      · have d1 : decide ((A : Int) < P) = false := decide_eq_false h1
                        clear hlaw hxr
                        go_wp2_with fail
                        go_roundw
                        case rel => exact ⟨k + 1, y, rfl, by go_num, by omega, HY.out, HBI.out⟩
                        case measure => simp [intOf]; omega
              · obtain rfl : k = n3 := by omega
                have hlt2 : ¬ (k : Int) < (k : Int) := by omega
                have HY : Hid (y = r3) := by have h := HRR.out.1; rw [HNL.out, List.take_length, if_pos HLP.out.1] at h; exact h
                go_wp2_with fail
                go_meet
                exact ⟨by rw [HE.out.1], by rw [HY.out], HRR.out.2⟩
  obtain ⟨rfl, rfl, HBX⟩ := hcut
  have hgc := (HBX.out.cell (p := ⟨w.heap.size, 0, none⟩) HG3.out).trans g3
  have HGC : Hid (w.heap.size < wc.heap.size) := Nat.lt_of_lt_of_le HG3.out HBX.out.size
  have HBC := Lib.hid (HB3.out.trans (HBX.out.mono HB3.out.size))
  clear HBX g3 HG3 HB3 H3 HNL HIN
  go_upto_region 44 with (first
    | (go_at_call 14; (with_reducible refine (HRK.out _ HBC.out).mono ?_); rintro e w4 ⟨rfl, hB4⟩; have g4 : w4.cell? ⟨w.heap.size, 0, none⟩ = some (.slice a0 n0 c0) := (hB4.cell (p := ⟨w.heap.size, 0, none⟩) HGC.out).trans hgc; have HG4 : Hid (w.heap.size < w4.heap.size) := Nat.lt_of_lt_of_le HGC.out hB4.size; have HB4 := Lib.hid (HBC.out.trans (hB4.mono HBC.out.size)); clear hB4)
    | (go_at_call 9; (with_reducible refine (HTS.out k3 _ HB4.out).mono ?_); rintro e w5 ⟨rfl, hB5⟩; have g5 : w5.cell? ⟨w.heap.size, 0, none⟩ = some (.slice a0 n0 c0) := (hB5.cell (p := ⟨w.heap.size, 0, none⟩) HG4.out).trans g4; have HG5 : Hid (w.heap.size < w5.heap.size) := Nat.lt_of_lt_of_le HG4.out hB5.size; have HB5 := Lib.hid (HB4.out.trans (hB5.mono HB4.out.size)); clear hB5)
    | fail)
  clear g4 hgc HB4 HBC HG4 HGC HRK
  go_cut [207] from 202 to 207 (fun v wx => v = .bool bm ∧ w5 = wx)
  case first => as_aux_lemma =>
    clear HTS g5 hf ht hp HLN HK0 HB0 HBP
    by_cases p1 : many < 1
    · have d1 : decide (many < 1) = true := decide_eq_true p1
      have HE : Hid (bm = true) := by show _ = _; rw [← HBM.out]; exact decide_eq_true (Or.inl p1)
      go_wp2_with fail
      go_meet
      exact ⟨by rw [HE.out], rfl⟩
    · have d1 : decide (many < 1) = false := decide_eq_false p1
      by_cases p2 : 100 < many
      · have d2 : decide (100 < many) = true := decide_eq_true p2
        have HE : Hid (bm = true) := by show _ = _; rw [← HBM.out]; exact decide_eq_true (Or.inr p2)
        go_wp2_with fail
        go_meet
        exact ⟨by rw [HE.out], rfl⟩
      · have d2 : decide (100 < many) = false := decide_eq_false p2
        have HE : Hid (bm = false) := by show _ = _; rw [← HBM.out]; exact decide_eq_false (by omega)
        go_wp2_with fail
        go_meet
        exact ⟨by rw [HE.out], rfl⟩
  obtain ⟨rfl, rfl⟩ := hcut
  go_upto_if 207 with fail
  go_cut [13] from 207 to 207 (fun v wx => v = .int .i64 (topE l many) ∧ w5 = wx)
  case first => as_aux_lemma =>
    clear HTS g5 hf ht hp HLN HB0 HBP
    cases bm with
    | true =>
      have HE : Hid (topE l many = 1) := by show _ = _; unfold topE; rw [if_neg (by have := of_decide_eq_true HBM.out; omega)]
      go_wp2_with fail
      go_meet
      exact ⟨by rw [HE.out], rfl⟩
    | false =>
      have HE : Hid (topE l many = k0) := by show _ = _; unfold topE; rw [if_pos (by have := of_decide_eq_false HBM.out; omega)]; exact HK0.out
      go_wp2_with fail
      go_meet
      exact ⟨by rw [HE.out], rfl⟩
  obtain ⟨rfl, rfl⟩ := hcut
  clear HBM HK0
  by_cases hkt : topE l many = 0
  · have HTOP := Lib.hid (top_ok _ l many w5 (cell_back (B := 0) HA.out.1 HB5.out) (fun e he => (HA.out.2 e he).2.2) hkt)
    have hmn : 1 ≤ many ∧ many ≤ 100 := by
      by_cases hm : 1 ≤ many ∧ many ≤ 100
      · exact hm
      · rw [show topE l many = 1 from if_neg hm] at hkt; cases hkt
    have hn1 : n0 ≤ 1000 := by rw [HLN.out]; exact allE_zero (by rw [show topE l many = allE l from if_pos hmn] at hkt; exact hkt)
    have HT0 := Lib.hid (HTS.out 0)
    rw [show errV 0 = .nilIface from rfl] at HT0
    rw [hkt]
    clear hkt HTS
    go_upto_region 51 with (first
      | (go_at_call 15; (with_reducible refine HTOP.out.mono ?_); rintro e w6 ⟨ta, tn, tc, ps, rfl, ht1, ht2, ht3, ht4, hB6⟩; have HPT := Lib.hid (And.intro ht1 (And.intro ht2 ht3)); have HPC := Lib.hid ht4; have g6 : w6.cell? ⟨w.heap.size, 0, none⟩ = some (.slice a0 n0 c0) := (hB6.cell (p := ⟨w.heap.size, 0, none⟩) HG5.out).trans g5; have HG6 : Hid (w.heap.size < w6.heap.size) := Nat.lt_of_lt_of_le HG5.out hB6.size; have HB6 := Lib.hid (HB5.out.trans (hB6.mono HB5.out.size)); clear hB6 ht1 ht2 ht3 ht4)
      | (go_at_call 9; (with_reducible refine (HT0.out _ HB6.out).mono ?_); rintro e w7 ⟨rfl, hB7⟩; have g7 : w7.cell? ⟨w.heap.size, 0, none⟩ = some (.slice a0 n0 c0) := (hB7.cell (p := ⟨w.heap.size, 0, none⟩) HG6.out).trans g6; have HG7 : Hid (w.heap.size < w7.heap.size) := Nat.lt_of_lt_of_le HG6.out hB7.size; have HB67 := Lib.hid hB7; have HB7 := Lib.hid (HB6.out.trans (hB7.mono HB6.out.size)); clear hB7)
      | fail)
    have HPS : Hid (∀ W, Below w7.heap.size w7 W → ∀ i (hi : i < ps.length), ∃ g, ta = some ⟨g, 0, none⟩ ∧ W.cell? ⟨g, i, none⟩ = some (.string ps[i])) := fun W hB i hi => by
      obtain ⟨g, e, hg, hc⟩ := HPC.out i hi
      exact ⟨g, e, ((hB.mono HB67.out.size).cell (p := ⟨g, i, none⟩) hg).trans ((HB67.out.cell (p := ⟨g, i, none⟩) hg).trans hc)⟩
    have HLC : Hid (∀ W, Below w7.heap.size w7 W → At encE W (.slice a0 n0 c0) l) := fun W hB => cell_back (B := 0) HA.out.1 (HB7.out.trans (hB.mono HB7.out.size))
    have HGC : Hid (∀ W, Below w7.heap.size w7 W → W.cell? ⟨w.heap.size, 0, none⟩ = some (.slice a0 n0 c0)) := fun W hB => (hB.cell (p := ⟨w.heap.size, 0, none⟩) HG7.out).trans g7
    have HCN : Hid (∀ (p : ByteArray) W, Below w7.heap.size w7 W → Calls Tryz.prog 16 #[.string p, .pointer (some ⟨w.heap.size, 0, none⟩)] W fun e w' => e = .returned (.int .i64 (cnt l p : Nat)) ∧ W = w') := fun p W hB => count_any l p a0 n0 c0 w.heap.size W (HLC.out W hB) hn1 (HGC.out W hB)
    clear HPC HB67 HB6 HB5 g5 g6 g7 HG5 HG6 HG7 HTOP HT0 HA HB0 HBP hf ht hp hm
    obtain ⟨hT, htn, htc⟩ := HPT.out
    have HIT := Lib.hid hT
    have hK := hT.len
    rw [← htn] at hK
    have htn1 := uniq_le l
    have HLL := HLN
    have htn2 : tn ≤ 1000 := by have := HLN.out; omega
    have HTN := Lib.hid htn
    have HK := Lib.hid hK
    clear hT htn hK htn1 HPT
    generalize w.heap.size = g0 at HGC HCN ⊢
    have hg0 := HGC.out w7 (Below.refl _ _)
    go_wp2_with fail
    clear hg0
    go_loopw [35, 36, 37, 38] (fun v35 v36 _ _ wr => ∃ k u : Nat, v35 = .int .i64 (u : Int) ∧ v36 = .int .i64 (k : Int) ∧ k ≤ n0 ∧ u ≤ 1000 ∧ Hid (u = (uniq (l.take k)).length ∧ Below w7.heap.size w7 wr)) (fun _ v36 _ _ _ => n0 - (intOf v36).toNat)
    case atStart => exact ⟨0, 0, rfl, rfl, by omega, by omega, rfl, Below.refl _ _⟩
    case round =>
      obtain ⟨k, u, rfl, rfl, hk, hu, HR⟩ := hrel
      have HRR := HR
      clear HR
      obtain ⟨wo, hwo⟩ : ∃ wo : World, wo = wr := ⟨_, rfl⟩
      subst hwo
      have hg0 := HGC.out wo HRR.out.2
      by_cases hlt : k < n0
      · have hlt2 : (k : Int) < (n0 : Int) := by omega
        have hk0 : (0 : Int) ≤ (k : Int) := by omega
        go_wp2_with fail
        clear hg0
        go_loopw [37, 38] (fun v37 v38 wi => ∃ (j : Nat) (b : Bool), v37 = .bool b ∧ v38 = .int .i64 (j : Int) ∧ j ≤ k ∧ Hid (b = !decide ((l[k]'(by have := HLN.out; omega)).path ∈ uniq (l.take j)) ∧ Below w7.heap.size w7 wi)) (fun _ v38 _ => k - (intOf v38).toNat)
        case atStart => exact ⟨0, true, rfl, rfl, by omega, by simp [uniq], HRR.out.2⟩
        case round =>
          obtain ⟨j, b, rfl, rfl, hj, HR⟩ := hrel
          have HI := HR
          clear HR
          obtain ⟨wi, hwi⟩ : ∃ wi : World, wi = wr := ⟨_, rfl⟩
          subst hwi
          have hg0 := HGC.out wi HI.out.2
          have hkl : k < l.length := by have := HLN.out; omega
          obtain ⟨en, hen⟩ : ∃ en, l[k] = en := ⟨_, rfl⟩
          rw [hen] at HI
          by_cases hjk : j < k
          · have hjk2 : (j : Int) < (k : Int) := by omega
            have hj0 : (0 : Int) ≤ (j : Int) := by omega
            have hjn : (j : Int) < (n0 : Int) := by omega
            have hjl : j < l.length := by omega
            obtain ⟨bb, off, e1, hbb, -, -, -, -, -, c5⟩ := (at_cells (HLC.out wi HI.out.2)).2.2 k hkl
            obtain ⟨bb2, off2, e2, hbb2, -, -, -, -, -, z5⟩ := (at_cells (HLC.out wi HI.out.2)).2.2 j hjl
            rw [e1] at e2
            simp only [Option.some.injEq, Addr.mk.injEq] at e2
            obtain ⟨rfl, rfl, -⟩ := e2
            have hts : l.take (j + 1) = l.take j ++ [l[j]] := List.take_succ_eq_append_getElem hjl
            obtain ⟨en2, hen2⟩ : ∃ en, l[j] = en := ⟨_, rfl⟩
            rw [hen] at c5
            rw [hen2] at z5 hts
            have hmu := mem_uniq_snoc (l.take j) en2 en.path
            rw [← hts] at hmu
            have HMU := Lib.hid hmu
            have HEN2 := Lib.hid hen
            clear hts hmu hen2 hen hbb hbb2
            subst e1
            cases b with
            | false =>
              have HY : Hid (false = !decide (en.path ∈ uniq (l.take (j + 1)))) := by
                have h := HI.out.1
                have hm : en.path ∈ uniq (l.take j) := by simpa using h
                show _ = _
                rw [decide_eq_true (HMU.out.2 (.inl hm))]; rfl
              go_wp2_with fail
              go_quiet (fail)
              go_wp2_with fail
              go_roundw
              case rel => exact ⟨j + 1, false, rfl, by go_num, by omega, by have h := HY.out; rw [← HEN2.out] at h; exact h, below_drewN HI.out.2 _⟩
              case measure => simp [intOf]; omega
            | true =>
              have hm : en.path ∉ uniq (l.take j) := by have h := HI.out.1; simpa using h
              by_cases hp : en2.path = en.path
              · have HY : Hid (false = !decide (en.path ∈ uniq (l.take (j + 1)))) := by
                  show _ = _
                  rw [decide_eq_true (HMU.out.2 (.inr hp))]; rfl
                rw [hp] at z5
                clear hp hm
                go_wp2_with fail
                go_quiet (fail)
                go_wp2_with fail
                go_roundw
                case rel => exact ⟨j + 1, false, by simp, by go_num, by omega, by have h := HY.out; rw [← HEN2.out] at h; exact h, below_drewN HI.out.2 _⟩
                case measure => simp [intOf]; omega
              · have HY : Hid (true = !decide (en.path ∈ uniq (l.take (j + 1)))) := by
                  show _ = _
                  rw [decide_eq_false (fun h => by rcases HMU.out.1 h with h | h; exact hm h; exact hp h)]; rfl
                have hq := str_ne hp
                clear hp hm
                go_wp2_with fail
                go_quiet (fail)
                go_wp2_with fail
                go_roundw
                case rel => exact ⟨j + 1, true, by simp [hq], by go_num, by omega, by have h := HY.out; rw [← HEN2.out] at h; exact h, below_drewN HI.out.2 _⟩
                case measure => simp [intOf]; omega
          · obtain rfl : j = k := by omega
            have hjk2 : ¬ (j : Int) < (j : Int) := by omega
            have hts : l.take (j + 1) = l.take j ++ [en] := by rw [List.take_succ_eq_append_getElem hkl, hen]
            have hun := uniq_snoc (l.take j) en
            rw [← hts] at hun
            have hul := uniq_le (l.take (j + 1))
            rw [List.length_take] at hul
            clear hts hen
            cases b with
            | true =>
              have hm : en.path ∉ uniq (l.take j) := by have h := HI.out.1; simpa using h
              have HY : Hid (u + 1 = (uniq (l.take (j + 1))).length) := by show _ = _; rw [hun, if_neg hm, List.length_append, ← HRR.out.1]; rfl
              have hu9 : u ≤ 999 := by have := HY.out; omega
              clear hun hul hm
              go_wp2_with fail
              go_roundw
              case rel => exact ⟨j + 1, u + 1, by go_num, by go_num, by omega, by omega, HY.out, HI.out.2⟩
              case measure => simp [intOf]; omega
            | false =>
              have hm : en.path ∈ uniq (l.take j) := by have h := HI.out.1; simpa using h
              have HY : Hid (u = (uniq (l.take (j + 1))).length) := by show _ = _; rw [hun, if_pos hm]; exact HRR.out.1
              clear hun hul hm
              go_wp2_with fail
              go_roundw
              case rel => exact ⟨j + 1, u, rfl, by go_num, by omega, by omega, HY.out, HI.out.2⟩
              case measure => simp [intOf]; omega
      · obtain rfl : k = n0 := by omega
        have hlt2 : ¬ (k : Int) < (k : Int) := by omega
        have HU : Hid (u = (uniq l).length) := by have h := HRR.out.1; rw [HLN.out, List.take_length] at h; exact h
        have HBE := Lib.hid HRR.out.2
        clear HRR
        go_upto_if 260 with fail
        have hwo : wo = wo := rfl
        go_cut [35] from 260 to 261 (fun v wx => v = .int .i64 (tn : Int) ∧ wo = wx)
        case first => as_aux_lemma =>
          clear HPS HLC HGC HCN HIT HTN HLL hg0 hwo
          by_cases c1 : many < (u : Int)
          · have d1 : decide (many < (u : Int)) = true := decide_eq_true c1
            have HE : Hid (many = (tn : Int)) := by have h1 := HK.out; have h2 := HU.out; show _ = _; omega
            go_wp2_with fail
            go_meet
            exact ⟨by rw [HE.out], rfl⟩
          · have d1 : decide (many < (u : Int)) = false := decide_eq_false c1
            have HE : Hid (u = tn) := by have h1 := HK.out; have h2 := HU.out; show _ = _; omega
            go_wp2_with fail
            go_meet
            exact ⟨by rw [HE.out], rfl⟩
        obtain ⟨rfl, rfl⟩ := hcut
        clear hwo hg0
        go_wp2_with fail
        go_loopw [39, 40, 41] (fun v39 _ _ wr => ∃ i : Nat, v39 = .int .i64 (i : Int) ∧ i ≤ tn ∧ Hid (Below w7.heap.size w7 wr)) (fun v39 _ _ _ => tn - (intOf v39).toNat)
        case atStart => exact ⟨0, rfl, by omega, HBE.out⟩
        case round =>
          obtain ⟨i, rfl, hi, HR⟩ := hrel
          have HRR := HR
          clear HR HBE
          obtain ⟨wi, hwi⟩ : ∃ wi : World, wi = wr := ⟨_, rfl⟩
          subst hwi
          by_cases hil : i < tn
          · have hil2 : (i : Int) < (tn : Int) := by omega
            have hi0 : (0 : Int) ≤ (i : Int) := by omega
            have hip : i < ps.length := by rw [← HTN.out]; exact hil
            obtain ⟨gq, e1, hcell⟩ := HPS.out wi HRR.out i hip
            have hone := HIT.out.one ps[i] (List.getElem_mem hip)
            have hcle := cnt_le l ps[i]
            have HC1 := Lib.hid (HCN.out ps[i] wi HRR.out)
            obtain ⟨x, hx⟩ : ∃ x, cnt l ps[i] = x := ⟨_, rfl⟩
            rw [hx] at hone hcle HC1
            have hx1 : 1 ≤ x := hone
            have hx2 : x ≤ 1000 := by have := HLN.out; omega
            have d0 : decide ((x : Int) < 1) = false := decide_eq_false (by omega)
            by_cases hi1 : i = 0
            · subst hi1
              clear hone hcle hx
              obtain ⟨pi, hpi⟩ : ∃ p, ps[0] = p := ⟨_, rfl⟩
              rw [hpi] at hcell HC1
              clear hpi
              subst e1
              go_wp2_with (first
                | (go_at_call 16; (with_reducible refine HC1.out.mono ?_); rintro e w9 ⟨rfl, rfl⟩)
                | fail)
              go_roundw
              case rel => exact ⟨1, by simp, by omega, HRR.out⟩
              case measure => simp [intOf]; omega
            · obtain ⟨i', hi'⟩ : ∃ i', i = i' + 1 := ⟨i - 1, by omega⟩
              subst hi'
              have hip2 : i' < ps.length := by omega
              obtain ⟨gq2, e2, hcell2⟩ := HPS.out wi HRR.out i' hip2
              rw [e1] at e2
              simp only [Option.some.injEq, Addr.mk.injEq] at e2
              obtain ⟨rfl, -, -⟩ := e2
              have HC2 := Lib.hid (HCN.out ps[i'] wi HRR.out)
              have hcle2 := cnt_le l ps[i']
              have hah := List.pairwise_iff_getElem.1 HIT.out.sorted i' (i' + 1) hip2 hip (by omega)
              unfold Ahead at hah
              rw [hx] at hah
              obtain ⟨y, hy⟩ : ∃ y, cnt l ps[i'] = y := ⟨_, rfl⟩
              rw [hy] at HC2 hcle2 hah
              have hy2 : y ≤ 1000 := by have := HLN.out; omega
              have hne : ps[i'] ≠ ps[i' + 1] := by
                intro e
                have h := List.pairwise_iff_getElem.1 HIT.out.sorted i' (i' + 1) hip2 hip (by omega)
                rw [e] at h
                exact ahead_irrefl l _ h
              have hless := less_iff ps[i'] ps[i' + 1]
              obtain ⟨pi, hpi⟩ : ∃ p, ps[i' + 1] = p := ⟨_, rfl⟩
              obtain ⟨pj, hpj⟩ : ∃ p, ps[i'] = p := ⟨_, rfl⟩
              rw [hpi] at hcell HC1 hah hne hless
              rw [hpj] at hcell2 HC2 hah hne hless
              have hi'0 : (0 : Int) ≤ (i' : Int) := by omega
              have hi'1 : (i' : Int) < (tn : Int) := by omega
              have hwr : IntKind.i64.wrap ((i' : Int) + 1 - 1) = (i' : Int) := by rw [show (i' : Int) + 1 - 1 = i' from by omega]; exact IntWalk.i64_in _ (by omega)
              clear hone hcle hx hpi hpj hcle2 hy
              subst e1
              have d1 : decide ((y : Int) < (x : Int)) = false := decide_eq_false (by omega)
              have d1' : decide (y < x) = false := decide_eq_false (by omega)
              by_cases hxy : y = x
              · subst hxy
                have hl1 : Op.bytesLess pj.toList pi.toList = true := hless.2 (by rcases hah with h | h; omega; exact h.2)
                clear hah hless hne
                go_upto_region 74 with (first
                  | (go_at_call 16; (with_reducible refine HC1.out.mono ?_); rintro e w9 ⟨rfl, rfl⟩; clear HC1)
                  | (go_at_call 16; (with_reducible refine HC2.out.mono ?_); rintro e w9 ⟨rfl, rfl⟩)
                  | fail)
                go_quiet (fail)
                go_wp2_with fail
                go_roundw
                case rel => exact ⟨i' + 1 + 1, by go_num, by omega, below_drewN HRR.out _⟩
                case measure => simp [intOf]; omega
              · have d2 : ((y : Int) == (x : Int)) = false := by rw [beq_eq_false_iff_ne]; omega
                clear hah hless hne hxy
                go_upto_region 74 with (first
                  | (go_at_call 16; (with_reducible refine HC1.out.mono ?_); rintro e w9 ⟨rfl, rfl⟩; clear HC1)
                  | (go_at_call 16; (with_reducible refine HC2.out.mono ?_); rintro e w9 ⟨rfl, rfl⟩)
                  | fail)
                go_quiet (fail)
                go_wp2_with fail
                go_roundw
                case rel => exact ⟨i' + 1 + 1, by go_num, by omega, below_drewN HRR.out _⟩
                case measure => simp [intOf]; omega
          · obtain rfl : tn = i := by omega
            have hil2 : ¬ (tn : Int) < (tn : Int) := by omega
            go_upto_region 76 with fail
            have HBJ := Lib.hid HRR.out
            clear HRR hil2 hil
            by_cases hi0 : tn = 0
            · subst hi0
              have HZ : Hid (k = 0) := by
                have h1 := HK.out
                have h2 := HU.out
                have h3 := HLN.out
                show k = 0
                by_cases hl : l = []
                · rw [hl] at h3; simpa using h3
                · exfalso
                  have h4 : 0 < cnt l (l.head hl).path := by
                    unfold cnt
                    exact List.length_pos_of_mem (List.mem_filter.2 ⟨List.head_mem hl, by simp⟩)
                  have h5 := List.length_pos_of_mem ((mem_uniq l _).2 h4)
                  omega
              have hk0 := HZ.out
              subst hk0
              have hg0 := HGC.out wi HBJ.out
              go_wp2_with fail
              go_loopw [42, 43, 44, 45, 46, 47] (fun v42 _ _ _ _ _ wr => v42 = .int .i64 0 ∧ Hid (wr = wi)) (fun _ _ _ _ _ _ _ => 0)
              case atStart => exact ⟨rfl, rfl⟩
              case round =>
                obtain ⟨rfl, HR⟩ := hrel
                have hwr := HR.out
                subst hwr
                clear HR
                go_wp2_with fail
                go_ret
                exact ⟨rfl, HB7.out.trans (HBJ.out.mono HB7.out.size)⟩
            · obtain ⟨q, hq⟩ : ∃ q, tn = q + 1 := ⟨tn - 1, by omega⟩
              have hq0 : (0 : Int) < (tn : Int) := by omega
              have hqt : q < tn := by omega
              have hne : ps ≠ [] := by intro e; have h := HTN.out; rw [e, List.length_nil] at h; omega
              have hqp : q < ps.length := by have := HTN.out; omega
              have HQ := Lib.hid hq
              have hlast : ps.getLast hne = ps[q] := by rw [List.getLast_eq_getElem]; congr 1; have := HTN.out; omega
              have HLAST := Lib.hid (fun p h1 h2 => HIT.out.last p h1 h2 hne)
              rw [hlast] at HLAST
              obtain ⟨lp, hlp⟩ : ∃ p, ps[q] = p := ⟨_, rfl⟩
              rw [hlp] at HLAST
              have HLP := Lib.hid hlp
              obtain ⟨y, hy⟩ : ∃ y, cnt l lp = y := ⟨_, rfl⟩
              have HC2 := Lib.hid (HCN.out lp)
              rw [hy] at HC2
              have HY := Lib.hid hy
              have hy2 : y ≤ 1000 := by have := cnt_le l lp; have := HLN.out; omega
              clear hlast hlp hy hne hi0 hq
              go_wp2_with fail
              go_loopw [42, 43, 44, 45, 46, 47] (fun v42 _ _ _ _ _ wr => ∃ i : Nat, v42 = .int .i64 (i : Int) ∧ i ≤ k ∧ Hid (Below w7.heap.size w7 wr)) (fun v42 _ _ _ _ _ _ => k - (intOf v42).toNat)
              case atStart => exact ⟨0, rfl, by omega, HBJ.out⟩
              case round =>
                obtain ⟨i, rfl, hi, HR⟩ := hrel
                have HRR := HR
                clear HR HBJ
                obtain ⟨wj, hwj⟩ : ∃ wj : World, wj = wr := ⟨_, rfl⟩
                subst hwj
                have hg0 := HGC.out wj HRR.out
                by_cases hik : i < k
                · have hik2 : (i : Int) < (k : Int) := by omega
                  have hi0 : (0 : Int) ≤ (i : Int) := by omega
                  have hill : i < l.length := by have := HLN.out; omega
                  obtain ⟨en, hen⟩ : ∃ en, l[i] = en := ⟨_, rfl⟩
                  have HEN2 := Lib.hid hen
                  clear hen
                  go_wp2_with fail
                  clear hg0
                  go_loopw [43, 44] (fun v43 v44 wi => ∃ (j : Nat) (b : Bool), v43 = .bool b ∧ v44 = .int .i64 (j : Int) ∧ j ≤ tn ∧ Hid (b = decide (en.path ∈ ps.take j) ∧ Below w7.heap.size w7 wi)) (fun _ v44 _ => tn - (intOf v44).toNat)
                  case atStart => exact ⟨0, false, rfl, rfl, by omega, by simp, HRR.out⟩
                  case round =>
                    obtain ⟨j, b, rfl, rfl, hj, HR⟩ := hrel
                    have HI := HR
                    clear HR
                    obtain ⟨wk, hwk⟩ : ∃ wk : World, wk = wr := ⟨_, rfl⟩
                    subst hwk
                    have hg0 := HGC.out wk HI.out.2
                    obtain ⟨bb, off, e1, hbb, -, -, -, -, -, c5⟩ := (at_cells (HLC.out wk HI.out.2)).2.2 i hill
                    rw [HEN2.out] at c5
                    by_cases hjq : j < tn
                    · have hjq2 : (j : Int) < (tn : Int) := by omega
                      have hj0 : (0 : Int) ≤ (j : Int) := by omega
                      have hjp : j < ps.length := by have := HTN.out; omega
                      obtain ⟨gq, e2, hcell⟩ := HPS.out wk HI.out.2 j hjp
                      have hts : ps.take (j + 1) = ps.take j ++ [ps[j]] := List.take_succ_eq_append_getElem hjp
                      obtain ⟨pj, hpj⟩ : ∃ p, ps[j] = p := ⟨_, rfl⟩
                      rw [hpj] at hcell hts
                      have HMU : Hid (en.path ∈ ps.take (j + 1) ↔ en.path ∈ ps.take j ∨ pj = en.path) := by
                        show _ ↔ _
                        rw [hts, List.mem_append, List.mem_singleton]
                        exact or_congr_right ⟨fun h => h.symm, fun h => h.symm⟩
                      clear hts hpj hbb
                      subst e1
                      subst e2
                      cases b with
                      | true =>
                        have hm : en.path ∈ ps.take j := by have h := HI.out.1; simpa using h
                        have HYY : Hid (true = decide (en.path ∈ ps.take (j + 1))) := by show _ = _; rw [decide_eq_true (HMU.out.2 (.inl hm))]
                        clear hm
                        go_wp2_with fail
                        go_quiet (fail)
                        go_wp2_with fail
                        go_roundw
                        case rel => exact ⟨j + 1, true, rfl, by go_num, by omega, HYY.out, below_drewN HI.out.2 _⟩
                        case measure => simp [intOf]; omega
                      | false =>
                        have hm : en.path ∉ ps.take j := by have h := HI.out.1; simpa using h
                        by_cases hp : pj = en.path
                        · have HYY : Hid (true = decide (en.path ∈ ps.take (j + 1))) := by show _ = _; rw [decide_eq_true (HMU.out.2 (.inr hp))]
                          rw [hp] at hcell
                          clear hp hm
                          go_wp2_with fail
                          go_quiet (fail)
                          go_wp2_with fail
                          go_roundw
                          case rel => exact ⟨j + 1, true, by simp, by go_num, by omega, HYY.out, below_drewN HI.out.2 _⟩
                          case measure => simp [intOf]; omega
                        · have HYY : Hid (false = decide (en.path ∈ ps.take (j + 1))) := by
                            show _ = _
                            rw [decide_eq_false (fun h => by rcases HMU.out.1 h with h | h; exact hm h; exact hp h)]
                          have hqq := str_ne hp
                          clear hp hm
                          go_wp2_with fail
                          go_quiet (fail)
                          go_wp2_with fail
                          go_roundw
                          case rel => exact ⟨j + 1, false, by simp [hqq], by go_num, by omega, HYY.out, below_drewN HI.out.2 _⟩
                          case measure => simp [intOf]; omega
                    · obtain rfl : j = tn := by omega
                      have hjq2 : ¬ (j : Int) < (j : Int) := by omega
                      have hwq : (j : Int) - 1 = (q : Int) := by have := HQ.out; omega
                      obtain ⟨gq, e2, hcell⟩ := HPS.out wk HI.out.2 q hqp
                      rw [HLP.out] at hcell
                      have hq0' : (0 : Int) ≤ (q : Int) := by omega
                      have hq1' : (q : Int) < (j : Int) := by omega
                      have HC1 := Lib.hid (HCN.out en.path)
                      have hpos : 0 < cnt l en.path := by
                        unfold cnt
                        have hmem : en ∈ l := by have h := List.getElem_mem hill; rw [HEN2.out] at h; exact h
                        exact List.length_pos_of_mem (a := en) (List.mem_filter.2 ⟨hmem, decide_eq_true rfl⟩)
                      have hx2 := cnt_le l en.path
                      have hless := less_iff en.path lp
                      have hin : b = false → ¬ Ahead l en.path lp := fun hb => HLAST.out en.path hpos (by
                        have h := HI.out.1
                        rw [hb, HTN.out, List.take_length] at h
                        simpa using h)
                      unfold Ahead at hin
                      rw [HY.out] at hin
                      obtain ⟨x, hx⟩ : ∃ x, cnt l en.path = x := ⟨_, rfl⟩
                      rw [hx] at hin HC1 hx2
                      have hx3 : x ≤ 1000 := by have := HLN.out; omega
                      have HBK := Lib.hid HI.out.2
                      clear hbb hx hx2 hpos HI
                      subst e1
                      subst e2
                      have HIN2 := Lib.hid hin
                      have HLESS := Lib.hid hless
                      clear hin hless
                      go_upto_region 87 with (first
                        | (go_at_call 16; (with_reducible refine (HC1.out _ HBK.out).mono ?_); rintro e w9 ⟨rfl, rfl⟩; clear HC1)
                        | (go_at_call 16; (with_reducible refine (HC2.out _ HBK.out).mono ?_); rintro e w9 ⟨rfl, rfl⟩)
                        | fail)
                      clear HC2 HLAST HLP HEN2 HCN HPS HLC hcell hq0' hq1' hy2 hx3
                      go_cut [375] from 355 to 375 (fun v wx => v = .bool false ∧ wk = wx)
                      case first => as_aux_lemma =>
                        clear HGC HIT HTN HK HLL HLN HY HB7 HU HBK HRR hi hj hu hk
                        cases b with
                        | true =>
                          clear HIN2 HLESS
                          go_wp2_with fail
                          go_meet
                          exact ⟨rfl, rfl⟩
                        | false =>
                          have hna := HIN2.out rfl
                          have d1 : decide ((y : Int) < (x : Int)) = false := decide_eq_false (by omega)
                          have HD1 : Hid (decide (y < x) = false) := decide_eq_false (by omega)
                          by_cases hxy : x = y
                          · subst hxy
                            have hl1 : Op.bytesLess en.path.toList lp.toList = false := by
                              cases hb : Op.bytesLess en.path.toList lp.toList with
                              | false => rfl
                              | true => exact absurd (.inr ⟨rfl, HLESS.out.1 hb⟩) hna
                            clear hna HIN2 HLESS
                            go_wp2_with fail
                            all_goals first
                              | (exfalso; have hd := of_decide_eq_false HD1.out; omega)
                              | (go_meet; exact ⟨rfl, rfl⟩)
                              | (go_meet; exact ⟨by rw [HD1.out], rfl⟩)
                          · have d2 : ((x : Int) == (y : Int)) = false := by rw [beq_eq_false_iff_ne]; omega
                            clear hna HIN2 HLESS hxy
                            go_wp2_with fail
                            all_goals first
                              | (exfalso; have hd := of_decide_eq_false HD1.out; omega)
                              | (go_meet; exact ⟨rfl, rfl⟩)
                              | (go_meet; exact ⟨by rw [HD1.out], rfl⟩)
                      obtain ⟨rfl, rfl⟩ := hcut
                      go_wp2_with fail
                      go_roundw
                      case rel => exact ⟨i + 1, by go_num, by omega, HBK.out⟩
                      case measure => simp [intOf]; omega
                · obtain rfl : i = k := by omega
                  have hik2 : ¬ (i : Int) < (i : Int) := by omega
                  go_wp2_with fail
                  go_ret
                  exact ⟨rfl, HB7.out.trans (HRR.out.mono HB7.out.size)⟩
  · have HTOP := Lib.hid (top_bad _ l many w5 (cell_back (B := 0) HA.out.1 HB5.out) hkt)
    obtain ⟨kt, hkte⟩ : ∃ kt, topE l many = kt := ⟨_, rfl⟩
    rw [hkte] at hkt HTOP
    rw [hkte]
    have hk2 : (kt == 0) = false := beq_eq_false_iff_ne.2 hkt
    have hk3 : (kt != 0) = true := by rw [bne, hk2]; rfl
    clear hkte hkt
    go_wp2_with (first
      | (go_at_call 15; (with_reducible refine HTOP.out.mono ?_); rintro e w6 ⟨rfl, hB6⟩; have HB6 := Lib.hid (HB5.out.trans (hB6.mono HB5.out.size)); clear hB6)
      | (go_at_call 9; (with_reducible refine (HTS.out kt _ HB6.out).mono ?_); rintro e w7 ⟨rfl, hB7⟩; have HB7 := Lib.hid (HB6.out.trans (hB7.mono HB6.out.size)); clear hB7)
      | fail)
    go_ret
    exact ⟨rfl, HB7.out⟩
theorem walk (v0 : Value) (l : List En) (f t : Int) (v3 : Value) (nums : List Int) (part many : Int) (w : World)
    (h : EntrysAt w v0 l) (hf : I64 f) (ht : I64 t) (hn : IntsAt w v3 nums) (hp : I64 part) (hm : I64 many)
    (hg : w.cell? ⟨0, 0, none⟩ = some (.iface 133 (.agg #[.pointer (some ⟨9, 27, none⟩)]))) :
    Calls Tryz.prog 4 #[v0, .int .i64 f, .int .i64 t, v3, .int .i64 part, .int .i64 many] w fun e w' => e = .returned (.bool true) ∧ Below w.heap.size w w' := by
  obtain ⟨a0, c0, rfl, -⟩ := id h.1
  obtain ⟨a3, c3, rfl, -⟩ := hn.open
  exact walk0 _ _ _ l f t _ _ _ nums part many w h hf ht hn hp hm hg
end Go.Proofs.YtcpkikillmmjcaaGreatDoor.WalkLogSums
