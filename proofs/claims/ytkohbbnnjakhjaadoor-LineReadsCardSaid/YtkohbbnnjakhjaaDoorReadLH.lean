/-
  The reference's reader: Length.
  Conditions: where the bytes lie.
-/
import Derived.Test.YtkohbbnnjakhjaaDoorReadLV
import Derived.Test.YtkohbbnnjakhjaaDoorReadH
namespace Go.Proofs.YtkohbbnnjakhjaaDoor.ReadL
open Go.RowKit BA ChunkD ModL LineC ReadC
set_option linter.unusedVariables false
set_option linter.unusedSimpArgs false

set_option maxRecDepth 100000 in
set_option maxHeartbeats 16000000 in
theorem llength_any {w0 w : World} {X : Nat} {v : Value} {b : List Int} {σ : Nat × Nat} (h : RS bad w0 w X v b σ) (least : Nat) (hleast : least ≤ 1) :
    Calls Tryd.prog 39 #[.pointer (some ⟨X, 0, none⟩), .int .i64 least] w fun e w' => (∃ m : Int, e = .returned (.int .i64 m) ∧ DG b least σ m) ∧ RS bad w0 w' X v b (ReadS.mtS b [13, 10] (ReadS.lenS b least σ).2) ∧ Mod (fun k => k = X) w w' := by
  have HC1 := Lib.hid (lmatch_any h ⟨#[58, 32]⟩ (by decide))
  obtain ⟨a0, cap, rfl, hc1, hc2, hnil, -⟩ := h.by0.open
  have hlen := h.len
  obtain ⟨σ1, hσ1⟩ : ∃ τ, ReadS.mtS b [58, 32] σ = τ := ⟨_, rfl⟩
  have HS1 := Lib.hid hσ1
  have hok := ReadS.mtS_ok (b := b) (s := [58, 32]) h.ok
  rw [hσ1] at hok
  have hbd := h.bd
  have e58 : sB ⟨#[58, 32]⟩ = [58, 32] := rfl
  rw [e58, hσ1] at HC1
  clear h hnil hσ1 e58
  have HZ := Lib.hid hbd
  obtain ⟨q, e⟩ := σ1
  obtain ⟨L, hL⟩ : ∃ L, b.length = L := ⟨_, rfl⟩
  rw [hL] at hlen hc1
  have HL := Lib.hid hL
  by_cases h0 : e = 0
  · subst h0
    have hqL := hok rfl
    simp only [hL] at hqL
    clear hL hok
    obtain ⟨R, hR⟩ : ∃ R, ReadS.dgs b least q (b.length + 1) q 0 = R := ⟨_, rfl⟩
    have HR := Lib.hid hR
    have HLN := Lib.hid (lenS_is HS1.out hR)
    clear hR hbd
    go_enter Tryd.func39, Tryd.ntmps39
    go_wp2_with (go_at_call 14; (with_reducible refine HC1.out.mono ?_); rintro e w1 ⟨rfl, hR1, hM1⟩; have H1 := Lib.hid hR1; have HM1 := Lib.hid hM1; obtain ⟨c0, c1, c2, f0, f1, f2⟩ := RS.cells0 hR1; rw [HL.out] at c0; have HEL := Lib.hid hR1.elems; clear hR1 hM1)
    go_loopw [5, 6] (fun nv iv wr => ∃ n i f : Nat, nv = .int .i64 n ∧ iv = .int .i64 i ∧ q ≤ i ∧ i ≤ L + 1 ∧ n ≤ 80100 ∧ ((wr = w1 ∧ i ≤ L ∧ n ≤ 8000 ∧ Hid (ReadS.dgs b least q f i n = R ∧ L < i + f)) ∨ (wr = w1.setCell ⟨X, 2, none⟩ (.int .i64 4) ∧ Hid (R = (0, 0, 4))))) (fun _ iv _ => L + 1 - (intOf iv).toNat)
    case atStart => exact ⟨0, q, b.length + 1, rfl, rfl, Nat.le_refl _, by omega, by omega, .inl ⟨rfl, hqL, by omega, HR.out, by rw [HL.out]; omega⟩⟩
    case round =>
      obtain ⟨n, i, f, rfl, rfl, hi1, hi2, hn1, hrel⟩ := hrel
      rcases hrel with ⟨rfl, hiL, hn2, HK⟩ | ⟨rfl, HRf⟩
      · obtain ⟨f, rfl⟩ : ∃ g, f = g + 1 := ⟨f - 1, by have := HK.out.2; omega⟩
        by_cases hlt : i < L
        · obtain ⟨bb, off, rfl, hbb, hcell⟩ := HEL.out i (by rw [HL.out]; exact hlt)
          have hzz := getD_bd HZ.out i
          obtain ⟨z, hzk⟩ : ∃ z, b.getD i 0 = z := ⟨_, rfl⟩
          rw [hzk] at hcell hzz
          obtain ⟨hz0, hz1⟩ := hzz
          have HZK := Lib.hid hzk
          have HKB : Hid (i < b.length) := by show i < b.length; rw [HL.out]; exact hlt
          clear hzk
          by_cases h13 : z = 13 ∧ q < i
          · obtain ⟨rfl, hqi⟩ := h13
            have hqi' : (q : Int) < (i : Int) := by omega
            by_cases hfew : n < least
            · have hR2 : R = (0, 0, 2) := by rw [← HK.out.1]; exact ReadS.dgs_few HKB.out ⟨HZK.out, hqi⟩ hfew
              have hfew' : (n : Int) < (least : Int) := by omega
              have HLN2 : Hid (ReadS.lenS b least σ = (0, ReadS.mtS b [13, 10] (0, 2))) := by show ReadS.lenS b least σ = _; rw [HLN.out, hR2]
              have HMD := Lib.hid (HM1.out.trans (modX wr X 2 (.int .i64 2)))
              have HRS := Lib.hid (RS.set2 H1.out (k := 2) (by decide) 0)
              clear hR2
              go_wp2
              go_ret
              refine ⟨⟨0, rfl, ⟨by omega, by omega⟩, fun h => ?_⟩, ?_, HMD.out⟩
              · rw [HLN2.out] at h; cases h
              · rw [HLN2.out]; exact HRS.out
            · have hR2 : R = (n, i, 0) := by rw [← HK.out.1]; exact ReadS.dgs_end HKB.out ⟨HZK.out, hqi⟩ hfew
              have hfew' : ¬ (n : Int) < (least : Int) := by omega
              have HRS := Lib.hid (H1.out.step (modX wr X 1 (.int .i64 i)) (H1.out.rd.move (p := i) (by omega) rfl) (fun _ => by rw [HL.out]; exact hiL))
              have HNE := Lib.hid (lmatch_any HRS.out ⟨#[13, 10, 13, 10]⟩ (by decide))
              have HLN2 : Hid (ReadS.lenS b least σ = (n, ReadS.mtS b [13, 10] (i, 0))) := by show ReadS.lenS b least σ = _; rw [HLN.out, hR2]
              have HMM : Hid (ReadS.mtS b (sB ⟨#[13, 10, 13, 10]⟩) (i, 0) = ReadS.mtS b [13, 10] (ReadS.mtS b [13, 10] (i, 0))) := ReadS.mtS_app b [13, 10] [13, 10] (i, 0)
              rw [HMM.out] at HNE
              clear hR2 hfew hqi
              go_wp2_with (first
                | (go_at_call 14; (with_reducible refine HNE.out.mono ?_); rintro e w2 ⟨rfl, hR3, hM3⟩; have HR3 := Lib.hid hR3; have HM3 := Lib.hid (((HM1.out).trans (modX _ _ _ _)).trans hM3); clear hR3 hM3))
              go_ret
              refine ⟨⟨(n : Int), rfl, ⟨by omega, by omega⟩, fun h => ?_⟩, ?_, HM3.out⟩
              · rw [HLN2.out]
              · rw [HLN2.out]; exact HR3.out
          · have H13 := Lib.hid h13
            have hc13 : z ≠ 13 ∨ (z = 13 ∧ i = q) := by omega
            clear h13
            have hcase : (z < 48 ∧ z ≠ 13) ∨ (z = 13 ∧ i = q) ∨ 57 < z ∨ (48 ≤ z ∧ z ≤ 57 ∧ i = q + 1 ∧ n = 0) ∨ (z = 48 ∧ i = q ∧ least = 1) ∨ (48 ≤ z ∧ z ≤ 57 ∧ i = q + 1 ∧ n ≠ 0) ∨ (48 ≤ z ∧ z ≤ 57 ∧ i = q ∧ z ≠ 48) ∨ (z = 48 ∧ i = q ∧ least = 0) ∨ (48 ≤ z ∧ z ≤ 57 ∧ i ≠ q ∧ i ≠ q + 1) := by omega
            clear hc13
            rcases hcase with ⟨s1, s2⟩ | ⟨rfl, rfl⟩ | s1 | ⟨s1, s2, rfl, rfl⟩ | ⟨rfl, rfl, s3⟩ | ⟨s1, s2, rfl, s3⟩ | ⟨s1, s2, rfl, s3⟩ | ⟨rfl, rfl, s3⟩ | ⟨s1, s2, s3, s4⟩
            · have hR2 : R = (0, 0, 2) := by rw [← HK.out.1]; exact ReadS.dgs_syn HKB.out (by rw [HZK.out]; exact H13.out) (by rw [HZK.out]; exact .inl s1)
              have t1 : (z == 13) = false := bne_of s2
              clear H13 s2
              have HLN2 : Hid (ReadS.lenS b least σ = (0, ReadS.mtS b [13, 10] (0, 2))) := by show ReadS.lenS b least σ = _; rw [HLN.out, hR2]
              have HMD := Lib.hid (HM1.out.trans (modX wr X 2 (.int .i64 2)))
              have HRS := Lib.hid (RS.set2 H1.out (k := 2) (by decide) 0)
              clear hR2
              go_wp2
              go_ret
              refine ⟨⟨0, rfl, ⟨by omega, by omega⟩, fun h => ?_⟩, ?_, HMD.out⟩
              · rw [HLN2.out] at h; cases h
              · rw [HLN2.out]; exact HRS.out
            · have hR2 : R = (0, 0, 2) := by rw [← HK.out.1]; exact ReadS.dgs_syn HKB.out (by rw [HZK.out]; exact H13.out) (by rw [HZK.out]; exact .inl (by decide))
              clear H13
              have HLN2 : Hid (ReadS.lenS b least σ = (0, ReadS.mtS b [13, 10] (0, 2))) := by show ReadS.lenS b least σ = _; rw [HLN.out, hR2]
              have HMD := Lib.hid (HM1.out.trans (modX wr X 2 (.int .i64 2)))
              have HRS := Lib.hid (RS.set2 H1.out (k := 2) (by decide) 0)
              clear hR2
              go_wp2
              go_ret
              refine ⟨⟨0, rfl, ⟨by omega, by omega⟩, fun h => ?_⟩, ?_, HMD.out⟩
              · rw [HLN2.out] at h; cases h
              · rw [HLN2.out]; exact HRS.out
            · have hR2 : R = (0, 0, 2) := by rw [← HK.out.1]; exact ReadS.dgs_syn HKB.out (by rw [HZK.out]; exact H13.out) (by rw [HZK.out]; exact .inr (.inl s1))
              have t1 : (z == 13) = false := bne_of (by omega)
              have t3 : ¬ (z < 48) := by omega
              clear H13
              have HLN2 : Hid (ReadS.lenS b least σ = (0, ReadS.mtS b [13, 10] (0, 2))) := by show ReadS.lenS b least σ = _; rw [HLN.out, hR2]
              have HMD := Lib.hid (HM1.out.trans (modX wr X 2 (.int .i64 2)))
              have HRS := Lib.hid (RS.set2 H1.out (k := 2) (by decide) 0)
              clear hR2
              go_wp2
              go_ret
              refine ⟨⟨0, rfl, ⟨by omega, by omega⟩, fun h => ?_⟩, ?_, HMD.out⟩
              · rw [HLN2.out] at h; cases h
              · rw [HLN2.out]; exact HRS.out
            · have hR2 : R = (0, 0, 2) := by rw [← HK.out.1]; exact ReadS.dgs_syn HKB.out (by rw [HZK.out]; exact H13.out) (by rw [HZK.out]; exact .inr (.inr (.inl ⟨rfl, rfl⟩)))
              have t1 : (z == 13) = false := bne_of (by omega)
              have t3 : ¬ (z < 48) := by omega
              have t4 : ¬ (57 < z) := by omega
              have i9 : IntKind.i64.wrap ((q : Int) + 1) = (q : Int) + 1 := IntWalk.i64_in _ (by omega)
              clear H13 s1 s2
              have HLN2 : Hid (ReadS.lenS b least σ = (0, ReadS.mtS b [13, 10] (0, 2))) := by show ReadS.lenS b least σ = _; rw [HLN.out, hR2]
              have HMD := Lib.hid (HM1.out.trans (modX wr X 2 (.int .i64 2)))
              have HRS := Lib.hid (RS.set2 H1.out (k := 2) (by decide) 0)
              clear hR2
              go_wp2
              go_ret
              refine ⟨⟨0, rfl, ⟨by omega, by omega⟩, fun h => ?_⟩, ?_, HMD.out⟩
              · rw [HLN2.out] at h; cases h
              · rw [HLN2.out]; exact HRS.out
            · have hR2 : R = (0, 0, 2) := by rw [← HK.out.1]; exact ReadS.dgs_syn HKB.out (by rw [HZK.out]; exact H13.out) (by rw [HZK.out]; exact .inr (.inr (.inr ⟨rfl, rfl, by omega⟩)))
              have t6 : (0 : Int) < (least : Int) := by omega
              clear H13 s3
              have HLN2 : Hid (ReadS.lenS b least σ = (0, ReadS.mtS b [13, 10] (0, 2))) := by show ReadS.lenS b least σ = _; rw [HLN.out, hR2]
              have HMD := Lib.hid (HM1.out.trans (modX wr X 2 (.int .i64 2)))
              have HRS := Lib.hid (RS.set2 H1.out (k := 2) (by decide) 0)
              clear hR2
              go_wp2
              go_ret
              refine ⟨⟨0, rfl, ⟨by omega, by omega⟩, fun h => ?_⟩, ?_, HMD.out⟩
              · rw [HLN2.out] at h; cases h
              · rw [HLN2.out]; exact HRS.out
            · obtain ⟨d, hd⟩ : ∃ d : Nat, z = 48 + (d : Int) := ⟨(z - 48).toNat, by omega⟩
              have hd9 : d ≤ 9 := by omega
              have e1 : (z - 48 : Int).toNat = d := by omega
              have HNS : Hid (¬ (b.getD (q + 1) 0 < 48 ∨ 57 < b.getD (q + 1) 0 ∨ ((q + 1) = q + 1 ∧ n = 0) ∨ ((q + 1) = q ∧ b.getD (q + 1) 0 = 48 ∧ 0 < least))) := by show ¬ _; rw [HZK.out]; omega
              have t1 : (z == 13) = false := bne_of (by omega)
              have t3 : ¬ (z < 48) := by omega
              have t2 : ¬ (57 < z) := by omega
              have t5 : ((n : Int) == 0) = false := bne_of (by omega)
              have i9 : IntKind.i64.wrap ((q : Int) + 1) = (q : Int) + 1 := IntWalk.i64_in _ (by omega)
              have hdz : (d : Int) = z - 48 := by omega
              have HD := Lib.hid hdz
              by_cases h8 : 8000 < 10 * n + d
              · have h8' : (8000 : Int) < (n : Int) * 10 + z - 48 := by omega
                have hR2 : R = (0, 0, 4) := by rw [← HK.out.1]; exact ReadS.dgs_full HKB.out (by rw [HZK.out]; exact H13.out) HNS.out (by rw [HZK.out, e1]; exact h8)
                have HR4 := Lib.hid hR2
                clear hR2 e1 s3 hd hdz
                go_wp2
                go_roundw
                case rel => exact ⟨10 * n + d, (q + 1) + 1, f, by have := HD.out; go_num, by go_num, by omega, by omega, by omega, .inr ⟨by first | trivial | rfl, HR4.out⟩⟩
                case measure => simp [intOf]; omega
              · have h8' : (n : Int) * 10 + z - 48 ≤ 8000 := by omega
                have HST := Lib.hid (show ReadS.dgs b least q f ((q + 1) + 1) (10 * n + d) = R by rw [← HK.out.1, ReadS.dgs_step HKB.out (by rw [HZK.out]; exact H13.out) HNS.out (by rw [HZK.out, e1]; exact h8), HZK.out, e1])
                clear e1 s3 hd hdz
                go_wp2
                go_roundw
                case rel => exact ⟨10 * n + d, (q + 1) + 1, f, by have := HD.out; go_num, by go_num, by omega, by omega, by omega, .inl ⟨by first | trivial | rfl, by omega, by omega, HST.out, by have := HK.out.2; omega⟩⟩
                case measure => simp [intOf]; omega
            · obtain ⟨d, hd⟩ : ∃ d : Nat, z = 48 + (d : Int) := ⟨(z - 48).toNat, by omega⟩
              have hd9 : d ≤ 9 := by omega
              have e1 : (z - 48 : Int).toNat = d := by omega
              have HNS : Hid (¬ (b.getD i 0 < 48 ∨ 57 < b.getD i 0 ∨ (i = i + 1 ∧ n = 0) ∨ (i = i ∧ b.getD i 0 = 48 ∧ 0 < least))) := by show ¬ _; rw [HZK.out]; omega
              have t1 : (z == 13) = false := bne_of (by omega)
              have t3 : ¬ (z < 48) := by omega
              have t2 : ¬ (57 < z) := by omega
              have t5 : (z == 48) = false := bne_of s3
              have hdz : (d : Int) = z - 48 := by omega
              have HD := Lib.hid hdz
              by_cases h8 : 8000 < 10 * n + d
              · have h8' : (8000 : Int) < (n : Int) * 10 + z - 48 := by omega
                have hR2 : R = (0, 0, 4) := by rw [← HK.out.1]; exact ReadS.dgs_full HKB.out (by rw [HZK.out]; exact H13.out) HNS.out (by rw [HZK.out, e1]; exact h8)
                have HR4 := Lib.hid hR2
                clear hR2 e1 s3 hd hdz
                go_wp2
                go_roundw
                case rel => exact ⟨10 * n + d, i + 1, f, by have := HD.out; go_num, by go_num, by omega, by omega, by omega, .inr ⟨by first | trivial | rfl, HR4.out⟩⟩
                case measure => simp [intOf]; omega
              · have h8' : (n : Int) * 10 + z - 48 ≤ 8000 := by omega
                have HST := Lib.hid (show ReadS.dgs b least i f (i + 1) (10 * n + d) = R by rw [← HK.out.1, ReadS.dgs_step HKB.out (by rw [HZK.out]; exact H13.out) HNS.out (by rw [HZK.out, e1]; exact h8), HZK.out, e1])
                clear e1 s3 hd hdz
                go_wp2
                go_roundw
                case rel => exact ⟨10 * n + d, i + 1, f, by have := HD.out; go_num, by go_num, by omega, by omega, by omega, .inl ⟨by first | trivial | rfl, by omega, by omega, HST.out, by have := HK.out.2; omega⟩⟩
                case measure => simp [intOf]; omega
            · obtain ⟨d, hd⟩ : ∃ d : Nat, (48 : Int) = 48 + (d : Int) := ⟨0, rfl⟩
              have hd9 : d ≤ 9 := by omega
              have e1 : (48 - 48 : Int).toNat = d := by omega
              have HNS : Hid (¬ (b.getD i 0 < 48 ∨ 57 < b.getD i 0 ∨ (i = i + 1 ∧ n = 0) ∨ (i = i ∧ b.getD i 0 = 48 ∧ 0 < least))) := by show ¬ _; rw [HZK.out]; omega
              have t6 : ¬ ((0 : Int) < (least : Int)) := by omega
              have hdz : (d : Int) = 48 - 48 := by omega
              have HD := Lib.hid hdz
              by_cases h8 : 8000 < 10 * n + d
              · have h8' : (8000 : Int) < (n : Int) * 10 + 48 - 48 := by omega
                have hR2 : R = (0, 0, 4) := by rw [← HK.out.1]; exact ReadS.dgs_full HKB.out (by rw [HZK.out]; exact H13.out) HNS.out (by rw [HZK.out, e1]; exact h8)
                have HR4 := Lib.hid hR2
                clear hR2 e1 s3 hd hdz
                go_wp2
                go_roundw
                case rel => exact ⟨10 * n + d, i + 1, f, by have := HD.out; go_num, by go_num, by omega, by omega, by omega, .inr ⟨by first | trivial | rfl, HR4.out⟩⟩
                case measure => simp [intOf]; omega
              · have h8' : (n : Int) * 10 + 48 - 48 ≤ 8000 := by omega
                have HST := Lib.hid (show ReadS.dgs b least i f (i + 1) (10 * n + d) = R by rw [← HK.out.1, ReadS.dgs_step HKB.out (by rw [HZK.out]; exact H13.out) HNS.out (by rw [HZK.out, e1]; exact h8), HZK.out, e1])
                clear e1 s3 hd hdz
                go_wp2
                go_roundw
                case rel => exact ⟨10 * n + d, i + 1, f, by have := HD.out; go_num, by go_num, by omega, by omega, by omega, .inl ⟨by first | trivial | rfl, by omega, by omega, HST.out, by have := HK.out.2; omega⟩⟩
                case measure => simp [intOf]; omega
            · obtain ⟨d, hd⟩ : ∃ d : Nat, z = 48 + (d : Int) := ⟨(z - 48).toNat, by omega⟩
              have hd9 : d ≤ 9 := by omega
              have e1 : (z - 48 : Int).toNat = d := by omega
              have HNS : Hid (¬ (b.getD i 0 < 48 ∨ 57 < b.getD i 0 ∨ (i = q + 1 ∧ n = 0) ∨ (i = q ∧ b.getD i 0 = 48 ∧ 0 < least))) := by show ¬ _; rw [HZK.out]; omega
              have t1 : (z == 13) = false := bne_of (by omega)
              have t3 : ¬ (z < 48) := by omega
              have t2 : ¬ (57 < z) := by omega
              have t5 : ((i : Int) == (q : Int)) = false := bne_of (by omega)
              have t6 : ((i : Int) == (q : Int) + 1) = false := bne_of (by omega)
              have i9 : IntKind.i64.wrap ((q : Int) + 1) = (q : Int) + 1 := IntWalk.i64_in _ (by omega)
              have hdz : (d : Int) = z - 48 := by omega
              have HD := Lib.hid hdz
              by_cases h8 : 8000 < 10 * n + d
              · have h8' : (8000 : Int) < (n : Int) * 10 + z - 48 := by omega
                have hR2 : R = (0, 0, 4) := by rw [← HK.out.1]; exact ReadS.dgs_full HKB.out (by rw [HZK.out]; exact H13.out) HNS.out (by rw [HZK.out, e1]; exact h8)
                have HR4 := Lib.hid hR2
                clear hR2 e1 s3 s4 hd hdz
                go_wp2
                go_roundw
                case rel => exact ⟨10 * n + d, i + 1, f, by have := HD.out; go_num, by go_num, by omega, by omega, by omega, .inr ⟨by first | trivial | rfl, HR4.out⟩⟩
                case measure => simp [intOf]; omega
              · have h8' : (n : Int) * 10 + z - 48 ≤ 8000 := by omega
                have HST := Lib.hid (show ReadS.dgs b least q f (i + 1) (10 * n + d) = R by rw [← HK.out.1, ReadS.dgs_step HKB.out (by rw [HZK.out]; exact H13.out) HNS.out (by rw [HZK.out, e1]; exact h8), HZK.out, e1])
                clear e1 s3 s4 hd hdz
                go_wp2
                go_roundw
                case rel => exact ⟨10 * n + d, i + 1, f, by have := HD.out; go_num, by go_num, by omega, by omega, by omega, .inl ⟨by first | trivial | rfl, by omega, by omega, HST.out, by have := HK.out.2; omega⟩⟩
                case measure => simp [intOf]; omega
        · have hR2 : R = (0, 0, 8) := by rw [← HK.out.1]; exact ReadS.dgs_short (by rw [HL.out]; omega)
          have HLN2 : Hid (ReadS.lenS b least σ = (0, ReadS.mtS b [13, 10] (0, 8))) := by show ReadS.lenS b least σ = _; rw [HLN.out, hR2]
          have HMD := Lib.hid (HM1.out.trans (modX wr X 2 (.int .i64 8)))
          have HRS := Lib.hid (RS.set2 H1.out (k := 8) (by decide) 0)
          clear hR2
          go_wp2
          go_ret
          refine ⟨⟨0, rfl, ⟨by omega, by omega⟩, fun h => ?_⟩, ?_, HMD.out⟩
          · rw [HLN2.out] at h; cases h
          · rw [HLN2.out]; exact HRS.out
      · have hR2 := HRf.out
        have HLN2 : Hid (ReadS.lenS b least σ = (0, ReadS.mtS b [13, 10] (0, 4))) := by show ReadS.lenS b least σ = _; rw [HLN.out, hR2]
        have HMD := Lib.hid (HM1.out.trans (modX w1 X 2 (.int .i64 4)))
        have HRS := Lib.hid (RS.set2 H1.out (k := 4) (by decide) 0)
        clear hR2
        go_wp2
        go_ret
        refine ⟨⟨0, rfl, ⟨by omega, by omega⟩, fun h => ?_⟩, ?_, HMD.out⟩
        · rw [HLN2.out] at h; cases h
        · rw [HLN2.out]; exact HRS.out
  · have HE := Lib.hid h0
    have HLN := Lib.hid (lenS_err (least := least) (show (ReadS.mtS b [58, 32] σ).2 ≠ 0 by rw [HS1.out]; exact h0))
    have e2 := cast_eq0 h0
    clear hbd hok hL
    go_enter Tryd.func39, Tryd.ntmps39
    go_wp2_with (go_at_call 14; (with_reducible refine HC1.out.mono ?_); rintro e w1 ⟨rfl, hR1, hM1⟩; have H1 := Lib.hid hR1; have HM1 := Lib.hid hM1; obtain ⟨c0, ⟨q2, c1, -⟩, c2, f0, f1, f2⟩ := RS.cellsB hR1; clear hR1 hM1)
    go_loop [5, 6] (fun nv iv => nv = .int .i64 0 ∧ iv = .int .i64 q2) (fun _ _ => 0)
    case atStart => exact ⟨rfl, rfl⟩
    case round =>
      obtain ⟨rfl, rfl⟩ := hrel
      go_wp2
      go_ret
      have hmm : ReadS.mtS b [13, 10] (ReadS.lenS b least σ).2 = (q, e) := by rw [HLN.out, HS1.out]; exact if_neg HE.out
      refine ⟨⟨0, rfl, ⟨by omega, by omega⟩, fun h => ?_⟩, ?_, HM1.out⟩
      · rw [HLN.out]; rfl
      · rw [hmm]; exact H1.out
end Go.Proofs.YtkohbbnnjakhjaaDoor.ReadL
