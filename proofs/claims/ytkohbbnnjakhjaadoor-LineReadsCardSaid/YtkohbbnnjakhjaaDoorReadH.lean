/-
  Package line's reader: digits.
  Conditions: where the bytes lie.
-/
import Derived.Test.YtkohbbnnjakhjaaDoorReadD
namespace Go.Proofs.YtkohbbnnjakhjaaDoor.ReadC
open Go.RowKit BA ChunkD ModL LineC
set_option linter.unusedVariables false
set_option linter.unusedSimpArgs false
/-- What digits gives: its number, where nothing is wrong. -/
def DG (b : List Int) (least : Nat) (σ : Nat × Nat) (m : Int) : Prop := (0 ≤ m ∧ m ≤ 100000) ∧ ((ReadS.lenS b least σ).2.2 = 0 → m = (ReadS.lenS b least σ).1)
theorem RS.bad {en : Nat → Value} {w0 w : World} {X : Nat} {v : Value} {b : List Int} {σ τ : Nat × Nat} (h : RS en w0 w X v b σ) (h1 : σ.2 ≠ 0) (h2 : τ.2 = σ.2) : RS en w0 w X v b τ := by
  obtain ⟨a1, a2, a3, a4, a5, ⟨c0, ⟨q, q1, q2, q3⟩, c2, f0, f1, f2⟩, a7⟩ := h
  exact ⟨a1, a2, a3, a4, a5, ⟨c0, ⟨q, q1, q2, fun h => absurd (h2 ▸ h) h1⟩, by rw [h2]; exact c2, f0, f1, f2⟩, fun h => absurd (h2 ▸ h) h1⟩
/-- The digits' end: where it stands behind them. -/
theorem lenS_is {b : List Int} {least p : Nat} {σ : Nat × Nat} {r : Nat × Nat × Nat} (h1 : ReadS.mtS b [58, 32] σ = (p, 0)) (h2 : ReadS.dgs b least p (b.length + 1) p 0 = r) : ReadS.lenS b least σ = (r.1, ReadS.mtS b [13, 10] r.2) := by
  unfold ReadS.lenS
  simp only [h1, if_pos, h2]
theorem lenS_err {b : List Int} {least : Nat} {σ : Nat × Nat} (h1 : (ReadS.mtS b [58, 32] σ).2 ≠ 0) : ReadS.lenS b least σ = (0, ReadS.mtS b [58, 32] σ) := by
  unfold ReadS.lenS
  rw [if_neg h1]
set_option maxRecDepth 100000 in
set_option maxHeartbeats 16000000 in
theorem digits_any {w0 w : World} {X : Nat} {v : Value} {b : List Int} {σ : Nat × Nat} (h : RS errN w0 w X v b σ) (least : Nat) (hleast : least ≤ 1) :
    Calls Tryd.prog 45 #[.pointer (some ⟨X, 0, none⟩), .int .i64 least, .int .i64 8000] w fun e w' => (∃ m : Int, e = .returned (.int .i64 m) ∧ DG b least σ m) ∧ RS errN w0 w' X v b (ReadS.lenS b least σ).2 ∧ Mod (fun k => k = X) w w' := by
  have HC1 := Lib.hid (rmt_any h ⟨#[58, 32]⟩ (by decide))
  obtain ⟨a0, cap, rfl, hc1, hc2, hnil, _⟩ := h.by0.open
  have hlen := h.len
  obtain ⟨σ1, hσ1⟩ : ∃ τ, ReadS.mtS b [58, 32] σ = τ := ⟨_, rfl⟩
  have HS1 := Lib.hid hσ1
  have hok := ReadS.mtS_ok (b := b) (s := [58, 32]) h.ok
  rw [hσ1] at hok
  have hbd := h.bd
  have e58 : sB ⟨#[58, 32]⟩ = [58, 32] := rfl
  rw [e58, hσ1] at HC1
  clear h hnil hσ1 e58
  have HZ := Lib.hid hbd
  obtain ⟨q, e⟩ := σ1
  obtain ⟨L, hL⟩ : ∃ L, b.length = L := ⟨_, rfl⟩
  rw [hL] at hlen hc1
  have HL := Lib.hid hL
  by_cases h0 : e = 0
  · subst h0
    have hqL := hok rfl
    simp only [hL] at hqL
    clear hL hok
    obtain ⟨R, hR⟩ : ∃ R, ReadS.dgs b least q (b.length + 1) q 0 = R := ⟨_, rfl⟩
    have HR := Lib.hid hR
    have HLN := Lib.hid (lenS_is HS1.out hR)
    clear hR hbd
    go_enter Tryd.func45, Tryd.ntmps45
    go_wp2_with (go_at_call 22; (with_reducible refine HC1.out.mono ?_); rintro e w1 ⟨rfl, hR1, hM1⟩; have H1 := Lib.hid hR1; have HM1 := Lib.hid hM1; have c0 := hR1.cells.1; have c1 := hR1.cells.2.1; have c2 := hR1.cells.2.2.1; have f0 := hR1.cells.2.2.2.1; have f1 := hR1.cells.2.2.2.2.1; have f2 := hR1.cells.2.2.2.2.2; rw [HL.out] at c0; have HEL := Lib.hid hR1.elems; clear hR1 hM1)
    go_loopw [6, 7] (fun nv iv wr => ∃ n i f : Nat, nv = .int .i64 n ∧ iv = .int .i64 i ∧ q ≤ i ∧ i ≤ L + 1 ∧ n ≤ 80100 ∧ ((wr = w1 ∧ i ≤ L ∧ n ≤ 8000 ∧ Hid (ReadS.dgs b least q f i n = R ∧ L < i + f)) ∨ (wr = w1.setCell ⟨X, 2, none⟩ (.iface 63 (.int .i64 4)) ∧ Hid (R = (0, 0, 4))) ∨ (wr = w1.setCell ⟨X, 2, none⟩ (.iface 63 (.int .i64 2)) ∧ Hid (R = (0, 0, 2))))) (fun _ iv _ => L + 1 - (intOf iv).toNat)
    case atStart => exact ⟨0, q, b.length + 1, rfl, rfl, Nat.le_refl _, by omega, by omega, .inl ⟨rfl, hqL, by omega, HR.out, by rw [HL.out]; omega⟩⟩
    case round =>
      obtain ⟨n, i, f, rfl, rfl, hi1, hi2, hn1, hrel⟩ := hrel
      rcases hrel with ⟨rfl, hiL, hn2, HK⟩ | ⟨rfl, HRf⟩ | ⟨rfl, HRf⟩
      · obtain ⟨f, rfl⟩ : ∃ g, f = g + 1 := ⟨f - 1, by have := HK.out.2; omega⟩
        by_cases hlt : i < L
        · obtain ⟨bb, off, rfl, hbb, hcell⟩ := HEL.out i (by rw [HL.out]; exact hlt)
          have hzz := getD_bd HZ.out i
          obtain ⟨z, hzk⟩ : ∃ z, b.getD i 0 = z := ⟨_, rfl⟩
          rw [hzk] at hcell hzz
          obtain ⟨hz0, hz1⟩ := hzz
          have HZK := Lib.hid hzk
          have HKB : Hid (i < b.length) := by show i < b.length; rw [HL.out]; exact hlt
          clear hzk
          by_cases h13 : z = 13 ∧ q < i
          · obtain ⟨rfl, hqi⟩ := h13
            have hqi' : (q : Int) < (i : Int) := by omega
            by_cases hfew : n < least
            · have hR2 : R = (0, 0, 2) := by rw [← HK.out.1]; exact ReadS.dgs_few HKB.out ⟨HZK.out, hqi⟩ hfew
              have HRS := Lib.hid (H1.out.step (modX wr X 1 (.int .i64 i)) (H1.out.rd.move (p := i) (by omega) rfl) (fun _ => by rw [HL.out]; exact hiL))
              have HNE := Lib.hid (need_any HRS.out (decide (least ≤ n)))
              have hne : ReadS.needS (decide (least ≤ n)) (i, 0) = (i, 2) := if_pos ⟨rfl, decide_eq_false (by omega)⟩
              rw [hne] at HNE
              have HLN2 : Hid (ReadS.lenS b least σ = (0, ReadS.mtS b [13, 10] (0, 2))) := by show ReadS.lenS b least σ = _; rw [HLN.out, hR2]
              clear hR2 hne hfew hqi
              go_wp2_with (first
                | (go_at_call 21; (with_reducible refine HNE.out.mono ?_); rintro e w2 ⟨rfl, hR2, hM2⟩; have HR2 := Lib.hid hR2; have HM2 := Lib.hid (((HM1.out).trans (modX _ _ _ _)).trans hM2); clear hR2 hM2)
                | (go_at_call 22; (with_reducible refine (rmt_any HR2.out ⟨#[13, 10]⟩ (by decide)).mono ?_); rintro e w3 ⟨rfl, hR3, hM3⟩; have HR3 := Lib.hid hR3; have HM3 := Lib.hid (HM2.out.trans hM3); clear hR3 hM3))
              go_ret
              refine ⟨⟨(n : Int), rfl, ⟨by omega, by omega⟩, fun h => ?_⟩, ?_, HM3.out⟩
              · rw [HLN2.out] at h; cases h
              · rw [HLN2.out]; exact HR3.out.bad (by intro h; cases h) rfl
            · have hR2 : R = (n, i, 0) := by rw [← HK.out.1]; exact ReadS.dgs_end HKB.out ⟨HZK.out, hqi⟩ hfew
              have HRS := Lib.hid (H1.out.step (modX wr X 1 (.int .i64 i)) (H1.out.rd.move (p := i) (by omega) rfl) (fun _ => by rw [HL.out]; exact hiL))
              have HNE := Lib.hid (need_any HRS.out (decide (least ≤ n)))
              have hne : ReadS.needS (decide (least ≤ n)) (i, 0) = (i, 0) := if_neg (by rintro ⟨_, h⟩; rw [decide_eq_true (by omega)] at h; cases h)
              rw [hne] at HNE
              have HLN2 : Hid (ReadS.lenS b least σ = (n, ReadS.mtS b [13, 10] (i, 0))) := by show ReadS.lenS b least σ = _; rw [HLN.out, hR2]
              clear hR2 hne hfew hqi
              go_wp2_with (first
                | (go_at_call 21; (with_reducible refine HNE.out.mono ?_); rintro e w2 ⟨rfl, hR2, hM2⟩; have HR2 := Lib.hid hR2; have HM2 := Lib.hid (((HM1.out).trans (modX _ _ _ _)).trans hM2); clear hR2 hM2)
                | (go_at_call 22; (with_reducible refine (rmt_any HR2.out ⟨#[13, 10]⟩ (by decide)).mono ?_); rintro e w3 ⟨rfl, hR3, hM3⟩; have HR3 := Lib.hid hR3; have HM3 := Lib.hid (HM2.out.trans hM3); clear hR3 hM3))
              go_ret
              refine ⟨⟨(n : Int), rfl, ⟨by omega, by omega⟩, fun h => ?_⟩, ?_, HM3.out⟩
              · rw [HLN2.out]
              · rw [HLN2.out]; exact HR3.out
          · have H13 := Lib.hid h13
            have hc13 : z ≠ 13 ∨ (z = 13 ∧ i = q) := by omega
            clear h13
            have hcase : (z < 48 ∧ z ≠ 13) ∨ (z = 13 ∧ i = q) ∨ 57 < z ∨ (48 ≤ z ∧ z ≤ 57 ∧ i = q + 1 ∧ n = 0) ∨ (z = 48 ∧ i = q ∧ least = 1) ∨ (48 ≤ z ∧ z ≤ 57 ∧ i = q + 1 ∧ n ≠ 0) ∨ (48 ≤ z ∧ z ≤ 57 ∧ i = q ∧ z ≠ 48) ∨ (z = 48 ∧ i = q ∧ least = 0) ∨ (48 ≤ z ∧ z ≤ 57 ∧ i ≠ q ∧ i ≠ q + 1) := by omega
            clear hc13
            rcases hcase with ⟨s1, s2⟩ | ⟨rfl, rfl⟩ | s1 | ⟨s1, s2, rfl, rfl⟩ | ⟨rfl, rfl, s3⟩ | ⟨s1, s2, rfl, s3⟩ | ⟨s1, s2, rfl, s3⟩ | ⟨s1, rfl, s3⟩ | ⟨s1, s2, s3, s4⟩
            · have hR2 : R = (0, 0, 2) := by rw [← HK.out.1]; exact ReadS.dgs_syn HKB.out (by rw [HZK.out]; exact H13.out) (by rw [HZK.out]; exact .inl s1)
              have t1 : (z == 13) = false := bne_of s2
              have HR4 := Lib.hid hR2
              clear hR2 H13 s2
              go_wp2
              go_roundw
              case rel => exact ⟨n, i + 1, f, by go_num, by go_num, by omega, by omega, by omega, .inr (.inr ⟨by first | trivial | rfl, HR4.out⟩)⟩
              case measure => simp [intOf]; omega
            · have hR2 : R = (0, 0, 2) := by rw [← HK.out.1]; exact ReadS.dgs_syn HKB.out (by rw [HZK.out]; exact H13.out) (by rw [HZK.out]; exact .inl (by decide))
              have HR4 := Lib.hid hR2
              clear hR2 H13 
              go_wp2
              go_roundw
              case rel => exact ⟨n, i + 1, f, by go_num, by go_num, by omega, by omega, by omega, .inr (.inr ⟨by first | trivial | rfl, HR4.out⟩)⟩
              case measure => simp [intOf]; omega
            · have hR2 : R = (0, 0, 2) := by rw [← HK.out.1]; exact ReadS.dgs_syn HKB.out (by rw [HZK.out]; exact H13.out) (by rw [HZK.out]; exact .inr (.inl s1))
              have t1 : (z == 13) = false := bne_of (by omega)
              have t3 : ¬ (z < 48) := by omega
              have HR4 := Lib.hid hR2
              clear hR2 H13 
              go_wp2
              go_roundw
              case rel => exact ⟨n, i + 1, f, by go_num, by go_num, by omega, by omega, by omega, .inr (.inr ⟨by first | trivial | rfl, HR4.out⟩)⟩
              case measure => simp [intOf]; omega
            · have hR2 : R = (0, 0, 2) := by rw [← HK.out.1]; exact ReadS.dgs_syn HKB.out (by rw [HZK.out]; exact H13.out) (by rw [HZK.out]; exact .inr (.inr (.inl ⟨rfl, rfl⟩)))
              have t1 : (z == 13) = false := bne_of (by omega)
              have t3 : ¬ (z < 48) := by omega
              have t4 : ¬ (57 < z) := by omega
              have HR4 := Lib.hid hR2
              clear hR2 H13 s1 s2
              go_wp2
              go_roundw
              case rel => exact ⟨0, (q + 1) + 1, f, by go_num, by go_num, by omega, by omega, by omega, .inr (.inr ⟨by first | trivial | rfl, HR4.out⟩)⟩
              case measure => simp [intOf]; omega
            · have hR2 : R = (0, 0, 2) := by rw [← HK.out.1]; exact ReadS.dgs_syn HKB.out (by rw [HZK.out]; exact H13.out) (by rw [HZK.out]; exact .inr (.inr (.inr ⟨rfl, rfl, by omega⟩)))
              have t6 : (0 : Int) < (least : Int) := by omega
              have HR4 := Lib.hid hR2
              clear hR2 H13 s3
              go_wp2
              go_roundw
              case rel => exact ⟨n, i + 1, f, by go_num, by go_num, by omega, by omega, by omega, .inr (.inr ⟨by first | trivial | rfl, HR4.out⟩)⟩
              case measure => simp [intOf]; omega
            · obtain ⟨d, rfl⟩ : ∃ d : Nat, z = 48 + (d : Int) := ⟨(z - 48).toNat, by omega⟩
              have hd9 : d ≤ 9 := by omega
              have t1 : (48 + (d : Int) == 13) = false := bne_of (by omega)
              have t3 : ¬ (48 + (d : Int) < 48) := by omega
              have t5 : ((n : Int) == 0) = false := bne_of (by omega)
              have e1 : (48 + (d : Int) - 48).toNat = d := by omega
              have e2 : (48 + (d : Int) - 48) = (d : Int) := by omega
              have HNS : Hid (¬ (b.getD (q + 1) 0 < 48 ∨ 57 < b.getD (q + 1) 0 ∨ ((q + 1) = q + 1 ∧ n = 0) ∨ ((q + 1) = q ∧ b.getD (q + 1) 0 = 48 ∧ 0 < least))) := by show ¬ _; rw [HZK.out]; omega
              have t2 : ¬ (57 < 48 + (d : Int)) := by omega
              have t2' : (48 + (d : Int)) ≤ 57 := by omega
              by_cases h8 : 8000 < 10 * n + d
              · have h8' : (8000 : Int) < 10 * (n : Int) + (d : Int) := by omega
                have hR2 : R = (0, 0, 4) := by rw [← HK.out.1]; exact ReadS.dgs_full HKB.out (by rw [HZK.out]; exact H13.out) HNS.out (by rw [HZK.out, e1]; exact h8)
                have HR4 := Lib.hid hR2
                clear hR2 e1 s1 s2 s3
                go_wp2
                go_roundw
                case rel => exact ⟨10 * n + d, (q + 1) + 1, f, by go_num, by go_num, by omega, by omega, by omega, .inr (.inl ⟨by first | trivial | rfl, HR4.out⟩)⟩
                case measure => simp [intOf]; omega
              · have h8' : 10 * (n : Int) + (d : Int) ≤ 8000 := by omega
                have HST := Lib.hid (show ReadS.dgs b least q f ((q + 1) + 1) (10 * n + d) = R by rw [← HK.out.1, ReadS.dgs_step HKB.out (by rw [HZK.out]; exact H13.out) HNS.out (by rw [HZK.out, e1]; exact h8), HZK.out, e1])
                clear e1 s1 s2 s3
                go_wp2
                go_roundw
                case rel => exact ⟨10 * n + d, (q + 1) + 1, f, by go_num, by go_num, by omega, by omega, by omega, .inl ⟨by first | trivial | rfl, by omega, by omega, HST.out, by have := HK.out.2; omega⟩⟩
                case measure => simp [intOf]; omega
            · obtain ⟨d, rfl⟩ : ∃ d : Nat, z = 48 + (d : Int) := ⟨(z - 48).toNat, by omega⟩
              have hd9 : d ≤ 9 := by omega
              have t1 : (48 + (d : Int) == 13) = false := bne_of (by omega)
              have t3 : ¬ (48 + (d : Int) < 48) := by omega
              have t5 : (48 + (d : Int) == 48) = false := bne_of s3
              have e1 : (48 + (d : Int) - 48).toNat = d := by omega
              have e2 : (48 + (d : Int) - 48) = (d : Int) := by omega
              have HNS : Hid (¬ (b.getD i 0 < 48 ∨ 57 < b.getD i 0 ∨ (i = i + 1 ∧ n = 0) ∨ (i = i ∧ b.getD i 0 = 48 ∧ 0 < least))) := by show ¬ _; rw [HZK.out]; omega
              have t2 : ¬ (57 < 48 + (d : Int)) := by omega
              have t2' : (48 + (d : Int)) ≤ 57 := by omega
              by_cases h8 : 8000 < 10 * n + d
              · have h8' : (8000 : Int) < 10 * (n : Int) + (d : Int) := by omega
                have hR2 : R = (0, 0, 4) := by rw [← HK.out.1]; exact ReadS.dgs_full HKB.out (by rw [HZK.out]; exact H13.out) HNS.out (by rw [HZK.out, e1]; exact h8)
                have HR4 := Lib.hid hR2
                clear hR2 e1 s1 s2 s3
                go_wp2
                go_roundw
                case rel => exact ⟨10 * n + d, i + 1, f, by go_num, by go_num, by omega, by omega, by omega, .inr (.inl ⟨by first | trivial | rfl, HR4.out⟩)⟩
                case measure => simp [intOf]; omega
              · have h8' : 10 * (n : Int) + (d : Int) ≤ 8000 := by omega
                have HST := Lib.hid (show ReadS.dgs b least i f (i + 1) (10 * n + d) = R by rw [← HK.out.1, ReadS.dgs_step HKB.out (by rw [HZK.out]; exact H13.out) HNS.out (by rw [HZK.out, e1]; exact h8), HZK.out, e1])
                clear e1 s1 s2 s3
                go_wp2
                go_roundw
                case rel => exact ⟨10 * n + d, i + 1, f, by go_num, by go_num, by omega, by omega, by omega, .inl ⟨by first | trivial | rfl, by omega, by omega, HST.out, by have := HK.out.2; omega⟩⟩
                case measure => simp [intOf]; omega
            · obtain ⟨d, rfl⟩ : ∃ d : Nat, z = 48 + (d : Int) := ⟨(z - 48).toNat, by omega⟩
              have hd9 : d ≤ 9 := by omega
              have t1 : (48 + (d : Int) == 13) = false := bne_of (by omega)
              have t3 : ¬ (48 + (d : Int) < 48) := by omega
              have t5 : (48 + (d : Int) == 48) = true := by rw [s1]; rfl
              have t6 : ¬ ((0 : Int) < (least : Int)) := by omega
              have e1 : (48 + (d : Int) - 48).toNat = d := by omega
              have e2 : (48 + (d : Int) - 48) = (d : Int) := by omega
              have HNS : Hid (¬ (b.getD i 0 < 48 ∨ 57 < b.getD i 0 ∨ (i = i + 1 ∧ n = 0) ∨ (i = i ∧ b.getD i 0 = 48 ∧ 0 < least))) := by show ¬ _; rw [HZK.out]; omega
              have t2 : ¬ (57 < 48 + (d : Int)) := by omega
              have t2' : (48 + (d : Int)) ≤ 57 := by omega
              by_cases h8 : 8000 < 10 * n + d
              · have h8' : (8000 : Int) < 10 * (n : Int) + (d : Int) := by omega
                have hR2 : R = (0, 0, 4) := by rw [← HK.out.1]; exact ReadS.dgs_full HKB.out (by rw [HZK.out]; exact H13.out) HNS.out (by rw [HZK.out, e1]; exact h8)
                have HR4 := Lib.hid hR2
                clear hR2 e1 s1 s3
                go_wp2
                go_roundw
                case rel => exact ⟨10 * n + d, i + 1, f, by go_num, by go_num, by omega, by omega, by omega, .inr (.inl ⟨by first | trivial | rfl, HR4.out⟩)⟩
                case measure => simp [intOf]; omega
              · have h8' : 10 * (n : Int) + (d : Int) ≤ 8000 := by omega
                have HST := Lib.hid (show ReadS.dgs b least i f (i + 1) (10 * n + d) = R by rw [← HK.out.1, ReadS.dgs_step HKB.out (by rw [HZK.out]; exact H13.out) HNS.out (by rw [HZK.out, e1]; exact h8), HZK.out, e1])
                clear e1 s1 s3
                go_wp2
                go_roundw
                case rel => exact ⟨10 * n + d, i + 1, f, by go_num, by go_num, by omega, by omega, by omega, .inl ⟨by first | trivial | rfl, by omega, by omega, HST.out, by have := HK.out.2; omega⟩⟩
                case measure => simp [intOf]; omega
            · obtain ⟨d, rfl⟩ : ∃ d : Nat, z = 48 + (d : Int) := ⟨(z - 48).toNat, by omega⟩
              have hd9 : d ≤ 9 := by omega
              have t1 : (48 + (d : Int) == 13) = false := bne_of (by omega)
              have t3 : ¬ (48 + (d : Int) < 48) := by omega
              have t5 : ((i : Int) == (q : Int)) = false := bne_of (by omega)
              have t6 : ((i : Int) == (q : Int) + 1) = false := bne_of (by omega)
              have e1 : (48 + (d : Int) - 48).toNat = d := by omega
              have e2 : (48 + (d : Int) - 48) = (d : Int) := by omega
              have HNS : Hid (¬ (b.getD i 0 < 48 ∨ 57 < b.getD i 0 ∨ (i = q + 1 ∧ n = 0) ∨ (i = q ∧ b.getD i 0 = 48 ∧ 0 < least))) := by show ¬ _; rw [HZK.out]; omega
              have t2 : ¬ (57 < 48 + (d : Int)) := by omega
              have t2' : (48 + (d : Int)) ≤ 57 := by omega
              by_cases h8 : 8000 < 10 * n + d
              · have h8' : (8000 : Int) < 10 * (n : Int) + (d : Int) := by omega
                have hR2 : R = (0, 0, 4) := by rw [← HK.out.1]; exact ReadS.dgs_full HKB.out (by rw [HZK.out]; exact H13.out) HNS.out (by rw [HZK.out, e1]; exact h8)
                have HR4 := Lib.hid hR2
                clear hR2 e1 s1 s2 s3 s4
                go_wp2
                go_roundw
                case rel => exact ⟨10 * n + d, i + 1, f, by go_num, by go_num, by omega, by omega, by omega, .inr (.inl ⟨by first | trivial | rfl, HR4.out⟩)⟩
                case measure => simp [intOf]; omega
              · have h8' : 10 * (n : Int) + (d : Int) ≤ 8000 := by omega
                have HST := Lib.hid (show ReadS.dgs b least q f (i + 1) (10 * n + d) = R by rw [← HK.out.1, ReadS.dgs_step HKB.out (by rw [HZK.out]; exact H13.out) HNS.out (by rw [HZK.out, e1]; exact h8), HZK.out, e1])
                clear e1 s1 s2 s3 s4
                go_wp2
                go_roundw
                case rel => exact ⟨10 * n + d, i + 1, f, by go_num, by go_num, by omega, by omega, by omega, .inl ⟨by first | trivial | rfl, by omega, by omega, HST.out, by have := HK.out.2; omega⟩⟩
                case measure => simp [intOf]; omega
        · have hR2 : R = (0, 0, 8) := by rw [← HK.out.1]; exact ReadS.dgs_short (by rw [HL.out]; omega)
          have HLN2 : Hid (ReadS.lenS b least σ = (0, ReadS.mtS b [13, 10] (0, 8))) := by show ReadS.lenS b least σ = _; rw [HLN.out, hR2]
          have HMD := Lib.hid (HM1.out.trans (modX wr X 2 (.iface 63 (.int .i64 8))))
          have HRS := Lib.hid (H1.out.step (modX wr X 2 (errN 8)) (H1.out.rd.fault (e := 8) (by decide) 0) (by intro h; cases h))
          rw [errN8] at HRS
          clear hR2
          go_wp2
          go_ret
          refine ⟨⟨(n : Int), rfl, ⟨by omega, by omega⟩, fun h => ?_⟩, ?_, HMD.out⟩
          · rw [HLN2.out] at h; cases h
          · rw [HLN2.out]; exact HRS.out
      · have HLN2 : Hid (ReadS.lenS b least σ = (0, ReadS.mtS b [13, 10] (0, 4))) := by show ReadS.lenS b least σ = _; rw [HLN.out, HRf.out]
        have HMD := Lib.hid (HM1.out.trans (modX w1 X 2 (.iface 63 (.int .i64 4))))
        have HRS := Lib.hid (H1.out.step (modX w1 X 2 (errN 4)) (H1.out.rd.fault (e := 4) (by decide) 0) (by intro h; cases h))
        rw [errN4] at HRS
        go_wp2
        go_ret
        refine ⟨⟨(n : Int), rfl, ⟨by omega, by omega⟩, fun h => ?_⟩, ?_, HMD.out⟩
        · rw [HLN2.out] at h; cases h
        · rw [HLN2.out]; exact HRS.out
      · have HLN2 : Hid (ReadS.lenS b least σ = (0, ReadS.mtS b [13, 10] (0, 2))) := by show ReadS.lenS b least σ = _; rw [HLN.out, HRf.out]
        have HMD := Lib.hid (HM1.out.trans (modX w1 X 2 (.iface 63 (.int .i64 2))))
        have HRS := Lib.hid (H1.out.step (modX w1 X 2 (errN 2)) (H1.out.rd.fault (e := 2) (by decide) 0) (by intro h; cases h))
        rw [errN2] at HRS
        go_wp2
        go_ret
        refine ⟨⟨(n : Int), rfl, ⟨by omega, by omega⟩, fun h => ?_⟩, ?_, HMD.out⟩
        · rw [HLN2.out] at h; cases h
        · rw [HLN2.out]; exact HRS.out
  · have HE := Lib.hid h0
    have HLN := Lib.hid (lenS_err (least := least) (show (ReadS.mtS b [58, 32] σ).2 ≠ 0 by rw [HS1.out]; exact h0))
    clear hbd hok hL
    go_enter Tryd.func45, Tryd.ntmps45
    go_wp2_with (go_at_call 22; (with_reducible refine HC1.out.mono ?_); rintro e w1 ⟨rfl, hR1, hM1⟩; have H1 := Lib.hid hR1; have HM1 := Lib.hid hM1; obtain ⟨q2, c1⟩ := (hR1.cellsE HE.out).2.1; have c2 := (hR1.cellsE HE.out).2.2.1; clear hR1 hM1)
    have HX := Lib.hid HE
    go_loop [6, 7] (fun nv iv => nv = .int .i64 0 ∧ iv = .int .i64 q2) (fun _ _ => 0)
    case atStart => exact ⟨rfl, rfl⟩
    case round =>
      obtain ⟨rfl, rfl⟩ := hrel
      go_wp2
      go_ret
      refine ⟨⟨0, rfl, ⟨by omega, by omega⟩, fun h => ?_⟩, ?_, HM1.out⟩
      · rw [HLN.out]; rfl
      · rw [HLN.out, HS1.out]; exact H1.out
end Go.Proofs.YtkohbbnnjakhjaaDoor.ReadC
