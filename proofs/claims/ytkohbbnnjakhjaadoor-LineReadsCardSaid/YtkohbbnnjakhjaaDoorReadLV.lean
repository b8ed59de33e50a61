/-
  The reference's reader: Value, Body, Fault.
  Conditions: where the bytes lie.
-/
import Derived.Test.YtkohbbnnjakhjaaDoorReadL
import Derived.Test.YtkohbbnnjakhjaaDoorReadD
import Derived.Deep.Cut
import Derived.Deep.CutRange
namespace Go.Proofs.YtkohbbnnjakhjaaDoor.ReadL
open Go.RowKit BA ChunkD ModL LineC ReadC
set_option linter.unusedVariables false
set_option linter.unusedSimpArgs false

theorem RS.cellsB {w0 w : World} {X : Nat} {v : Value} {b : List Int} {p e : Nat} (h : RS bad w0 w X v b (p, e)) : w.cell? ⟨X, 0, none⟩ = some v ∧ (∃ q : Nat, w.cell? ⟨X, 1, none⟩ = some (.int .i64 q) ∧ (e = 0 → q = p)) ∧ w.cell? ⟨X, 2, none⟩ = some (.int .i64 e) ∧ w.frozen? ⟨X, 0, none⟩ = false ∧ w.frozen? ⟨X, 1, none⟩ = false ∧ w.frozen? ⟨X, 2, none⟩ = false := by
  obtain ⟨c0, ⟨q, q1, q2, q3⟩, c2, f0, f1, f2⟩ := h.rd
  exact ⟨c0, ⟨q, q2, q3⟩, c2, f0, f1, f2⟩
theorem RS.cells0 {w0 w : World} {X : Nat} {v : Value} {b : List Int} {p : Nat} (h : RS bad w0 w X v b (p, 0)) : w.cell? ⟨X, 0, none⟩ = some v ∧ w.cell? ⟨X, 1, none⟩ = some (.int .i64 p) ∧ w.cell? ⟨X, 2, none⟩ = some (.int .i64 0) ∧ w.frozen? ⟨X, 0, none⟩ = false ∧ w.frozen? ⟨X, 1, none⟩ = false ∧ w.frozen? ⟨X, 2, none⟩ = false := by
  obtain ⟨c0, ⟨q, q1, q2, q3⟩, c2, f0, f1, f2⟩ := h.rd
  have := q3 rfl
  simp only at this
  subst this
  exact ⟨c0, q2, c2, f0, f1, f2⟩
theorem RS.set2 {w0 w : World} {X : Nat} {v : Value} {b : List Int} {p e : Nat} (h : RS bad w0 w X v b (p, e)) {k : Nat} (hk : k ≠ 0) (q : Nat) : RS bad w0 (w.setCell ⟨X, 2, none⟩ (.int .i64 k)) X v b (q, k) :=
  h.step (modX _ _ _ _) (h.rd.fault (e := k) hk q) (fun h => absurd h hk)
theorem cast_eq0 {e : Nat} (h : e ≠ 0) : ((e : Int) == 0) = false := beq_eq_false_iff_ne.2 (by omega)
def blankB (b : List Int) (σ : Nat × Nat) : Bool := decide (σ.2 = 0 ∧ σ.1 < b.length ∧ b.getD σ.1 0 = 32)
theorem blank_true {b : List Int} {σ : Nat × Nat} (h : blankB b σ = true) : ReadS.blankS b σ = (σ.1, 2) := by unfold ReadS.blankS; rw [if_pos (of_decide_eq_true h)]
theorem blank_false {b : List Int} {σ : Nat × Nat} (h : blankB b σ = false) : ReadS.blankS b σ = σ := by unfold ReadS.blankS; rw [if_neg (of_decide_eq_false h)]
set_option maxRecDepth 100000 in
set_option maxHeartbeats 2000000 in
theorem lfault_any {w0 w : World} {X : Nat} {v : Value} {b : List Int} {σ : Nat × Nat} (h : RS bad w0 w X v b σ) :
    Calls Tryd.prog 18 #[.pointer (some ⟨X, 0, none⟩)] w fun e w' => e = .returned (.int .i64 (ReadS.faultS b σ)) ∧ w = w' := by
  obtain ⟨p, e⟩ := σ
  obtain ⟨c0, ⟨q, c1, -⟩, c2, f0, f1, f2⟩ := RS.cellsB h
  obtain ⟨a0, cap, rfl, hc1, hc2, hnil, -⟩ := h.by0.open
  have hlen := h.len
  obtain ⟨F, hF⟩ : ∃ F, ReadS.faultS b (p, e) = F := ⟨_, rfl⟩
  rw [hF]
  unfold ReadS.faultS at hF
  simp only at hF
  generalize b.length = L at *
  clear h hnil
  by_cases h8 : e = 8
  · subst h8
    by_cases hL : 20000 < L
    · have hf : F = 4 := by rw [← hF, if_pos ⟨rfl, hL⟩]
      subst hf
      have hL' : (20000 : Int) < (L : Int) := by omega
      clear hF hL
      go_enter Tryd.func18, Tryd.ntmps18
      go_wp2
      go_ret
      exact ⟨rfl, rfl⟩
    · have hf : F = 8 := by rw [← hF, if_neg (by omega)]
      subst hf
      have hL' : (L : Int) ≤ 20000 := by omega
      clear hF hL
      go_enter Tryd.func18, Tryd.ntmps18
      go_wp2
      go_ret
      exact ⟨rfl, rfl⟩
  · have hf : F = e := by rw [← hF, if_neg (fun h => h8 h.1)]
    subst hf
    have h8' : ((F : Int) == 8) = false := bne_of (by omega)
    clear hF h8
    go_enter Tryd.func18, Tryd.ntmps18
    go_wp2
    go_ret
    exact ⟨rfl, rfl⟩
set_option maxRecDepth 100000 in
set_option maxHeartbeats 4000000 in
theorem lbody_any {w0 w : World} {X : Nat} {v : Value} {b : List Int} {σ : Nat × Nat} (h : RS bad w0 w X v b σ) (n : Nat) (hn : n ≤ 140737588355328) :
    Calls Tryd.prog 17 #[.pointer (some ⟨X, 0, none⟩), .int .i64 n] w fun e w' => (∃ (a : Option Addr) (k c : Nat), e = .returned (.slice a k c) ∧ BytesAt w0 (.slice a k c) (ReadS.bodyS b n σ).1) ∧ RS bad w0 w' X v b (ReadS.bodyS b n σ).2 ∧ Mod (fun k => k = X) w w' := by
  have H := Lib.hid h
  obtain ⟨p, e⟩ := σ
  obtain ⟨c0, ⟨q, c1, hq⟩, c2, f0, f1, f2⟩ := RS.cellsB h
  obtain ⟨a0, cap, rfl, hc1, hc2, hnil, -⟩ := h.by0.open
  have hlen := h.len
  have hok := h.ok
  have HBY := Lib.hid h.bytes
  simp only at hok
  by_cases h0 : e = 0
  · subst h0
    have hpq : q = p := hq rfl
    subst hpq
    have hqL := hok rfl
    obtain ⟨L, hL⟩ : ∃ L, b.length = L := ⟨_, rfl⟩
    rw [hL] at c0 hqL hc1 hlen HBY
    have HL := Lib.hid hL
    obtain ⟨U, hU⟩ : ∃ U, ReadS.bodyS b n (q, 0) = U := ⟨_, rfl⟩
    rw [hU]
    unfold ReadS.bodyS at hU
    rw [if_neg (by simp), hL] at hU
    clear h hL hq hok
    have i1 : IntKind.i64.wrap ((L : Int) - (q : Int)) = (L : Int) - (q : Int) := IntWalk.i64_in _ (by omega)
    by_cases hs : L - q < n
    · rw [if_pos hs] at hU
      have HU := Lib.hid hU
      have hs' : (L : Int) - (q : Int) < (n : Int) := by omega
      have hF := Lib.hid (fun m => (H.out.rd.drewN m).fault (e := 8) (by decide) 0)
      clear hU hs hnil
      go_enter Tryd.func17, Tryd.ntmps17
      go_wp2
      go_quiet (fail)
      go_wp2
      go_ret
      rw [← HU.out]
      exact ⟨⟨none, 0, 0, rfl, bytes_nil _⟩, H.out.step (mod1 _ _ _ _ _) (hF.out _) (by intro h; cases h), mod1 _ _ _ _ _⟩
    · rw [if_neg hs] at hU
      have hs' : ¬ (L : Int) - (q : Int) < (n : Int) := by omega
      have i2 : IntKind.i64.wrap ((q : Int) + (n : Int)) = (q : Int) + (n : Int) := IntWalk.i64_in _ (by omega)
      have i3 : IntKind.i64.wrap ((q : Int) + (n : Int) - (n : Int)) = (q : Int) := by rw [IntWalk.i64_in _ (by omega)]; omega
      have i4 : (q : Int) + (n : Int) ≤ (cap : Int) := by omega
      have i5 : (q : Int) ≤ (q : Int) + (n : Int) := by omega
      have HU := Lib.hid hU
      have HQN : Hid (q + n ≤ L) := by show q + n ≤ L; omega
      clear hU hs
      have hcast : ((q + n : Nat) : Int) = (q : Int) + (n : Int) := by omega
      have HRS := Lib.hid (fun m => H.out.step (τ := (q + n, 0)) (mod1 w m X 1 (.int .i64 ((q + n : Nat) : Int))) ((H.out.rd.drewN m).move (p := q + n) (by omega) rfl) (fun _ => by rw [HL.out]; show q + n ≤ L; omega))
      rw [hcast] at HRS
      have HMD := Lib.hid (fun m => mod1 w m X 1 (.int .i64 ((q : Int) + (n : Int))))
      have HCAST := Lib.hid hcast
      have hu2 : Hid (U.2 = (q + n, 0)) := by show U.2 = _; rw [← HU.out]
      have hu1 : Hid (U.1 = (b.drop q).take n) := by show U.1 = _; rw [← HU.out]
      have hsl := fun W => slice_run a0 L cap q n (by omega) W
      have i6 : IntKind.i64.wrap (q : Int) = (q : Int) := IntWalk.i64_in _ (by omega)
      clear i4 i5 hcast
      go_enter Tryd.func17, Tryd.ntmps17
      go_wp2
      go_quiet (fail)
      go_wp2
      have HR1 := Lib.hid (HRS.out nq)
      have HM1 := Lib.hid (HMD.out nq)
      clear HRS HMD c0 c2 c1 f0 f1 f2
      generalize (w.drewN nq).setCell ⟨X, 1, none⟩ (.int .i64 ((q : Int) + (n : Int))) = w1 at *
      have d0 := HR1.out.rd.c0
      obtain ⟨q', -, d1, hqq⟩ := HR1.out.rd.c1
      have hqq' := hqq rfl
      simp only at hqq'
      rw [hqq', HCAST.out] at d1
      rw [HL.out] at d0
      clear hqq hqq'
      go_quiet (fail)
      go_wp2
      go_ret
      rw [hu1.out, hu2.out]
      refine ⟨⟨_, _, _, rfl, bytes_cutA (L := L) ?_ q n (by rw [HL.out]; exact HQN.out)⟩, HR1.out.below (below_drewN (Below.refl _ _) _), mod_drewN HM1.out _⟩
      have h := HR1.out.by0
      rw [HL.out] at h
      exact h
  · have E := Lib.hid h0
    have e1 : ReadS.bodyS b n (p, e) = ([], (p, e)) := if_pos h0
    have e2 := cast_eq0 h0
    rw [e1]
    clear h0 hok hq h e1 hnil
    go_enter Tryd.func17, Tryd.ntmps17
    go_wp2
    go_ret
    exact ⟨⟨none, 0, 0, rfl, bytes_nil _⟩, H.out, Mod.refl _ _⟩
set_option maxRecDepth 100000 in
set_option maxHeartbeats 4000000 in
theorem lvalue_any {w0 w : World} {X : Nat} {v : Value} {b : List Int} {σ : Nat × Nat} (h : RS bad w0 w X v b σ) :
    Calls Tryd.prog 15 #[.pointer (some ⟨X, 0, none⟩)] w fun e w' => e = .returned (.string (ReadS.valS b σ).1) ∧ RS bad w0 w' X v b (ReadS.valS b σ).2 ∧ Mod (fun k => k = X) w w' := by
  have HC1 := Lib.hid (lmatch_any h ⟨#[58, 32]⟩ (by decide))
  obtain ⟨V, hV⟩ : ∃ V, ReadS.valS b σ = V := ⟨_, rfl⟩
  rw [hV]
  have HV := Lib.hid hV
  clear hV
  obtain ⟨a0, cap, rfl, hc1, hc2, hnil, -⟩ := h.by0.open
  have hlen := h.len
  clear h
  go_enter Tryd.func15, Tryd.ntmps15
  go_upto_region 2 with (go_at_call 14; (with_reducible refine HC1.out.mono ?_); rintro e w1 ⟨rfl, hR1, hM1⟩)
  have h1 : RS bad w0 w1 X (.slice a0 b.length cap) b (ReadS.mtS b [58, 32] σ) := hR1
  have HVE : Hid (V = ((ReadS.utS b 13 okB (ReadS.blankS b (ReadS.mtS b [58, 32] σ))).1, ReadS.mtS b [13, 10] (ReadS.needS (plainL (ReadS.utS b 13 okB (ReadS.blankS b (ReadS.mtS b [58, 32] σ))).1.data.toList) (ReadS.utS b 13 okB (ReadS.blankS b (ReadS.mtS b [58, 32] σ))).2))) := by
    show V = _; rw [← HV.out]; rfl
  generalize ReadS.mtS b [58, 32] σ = σ1 at *
  obtain ⟨p, e⟩ := σ1
  have H1 := Lib.hid h1
  have HM1 := Lib.hid hM1
  obtain ⟨c0, ⟨q, c1, hq⟩, c2, f0, f1, f2⟩ := RS.cellsB h1
  have HEL := Lib.hid h1.elems
  have hkk := h1.ok
  simp only at hkk
  clear hR1 hM1 h1 HV HC1
  obtain ⟨L, hL⟩ : ∃ L, b.length = L := ⟨_, rfl⟩
  rw [hL] at c0 hkk hlen hc1
  have HL := Lib.hid hL
  have HHQ := Lib.hid hq
  clear hL hnil hq
  obtain ⟨BL, hBL⟩ : ∃ BL, blankB b (p, e) = BL := ⟨_, rfl⟩
  have HBL := Lib.hid hBL
  clear hBL
  go_cut [36] from 5 (fun c wx => c = .bool BL ∧ ∃ n, wx = w1.drewN n)
  case first =>
    by_cases h0 : e = 0
    · subst h0
      have hpq : q = p := HHQ.out rfl
      subst hpq
      have hqL := hkk rfl
      clear hkk
      by_cases hlt : q < L
      · obtain ⟨bb, off, rfl, hbb, hcell⟩ := HEL.out q (by rw [HL.out]; exact hlt)
        obtain ⟨z, hzk⟩ : ∃ z, b.getD q 0 = z := ⟨_, rfl⟩
        rw [hzk] at hcell
        have d1 : decide ((q : Int) < (L : Int)) = true := decide_eq_true (by omega)
        have d2 : decide (q < L) = true := decide_eq_true hlt
        have i0 : (0 : Int) ≤ (q : Int) := by omega
        have i1 : (q : Int) < (L : Int) := by omega
        by_cases h3 : z = 32
        · have hb : Hid (BL = true) := by show BL = true; rw [← HBL.out]; exact decide_eq_true ⟨rfl, by rw [HL.out]; exact hlt, by rw [hzk]; exact h3⟩
          have h3' : (z == 32) = true := by rw [h3]; rfl
          clear hzk hlt
          go_quiet (fail)
          go_wp2
          go_meet
          exact ⟨by rw [hb.out], _, rfl⟩
        · have hb : Hid (BL = false) := by show BL = false; rw [← HBL.out]; exact decide_eq_false (fun h => h3 (by rw [← hzk]; exact h.2.2))
          have h3' : (z == 32) = false := bne_of h3
          clear hzk hlt h3
          go_quiet (fail)
          go_wp2
          go_meet
          exact ⟨by rw [hb.out], _, rfl⟩
      · have hqq : q = L := by omega
        subst hqq
        have hb : Hid (BL = false) := by show BL = false; rw [← HBL.out]; exact decide_eq_false (fun h => by have := h.2.1; rw [HL.out] at this; simp only at this; omega)
        have d1 : decide ((q : Int) < (q : Int)) = false := decide_eq_false (by omega)
        have d2 : decide (q < q) = false := decide_eq_false (by omega)
        clear hlt
        go_quiet (fail)
        go_wp2
        go_meet
        exact ⟨by rw [hb.out], _, rfl⟩
    · have hb : Hid (BL = false) := by show BL = false; rw [← HBL.out]; exact decide_eq_false (fun h => h0 h.1)
      have e2 := cast_eq0 h0
      clear h0 hkk
      go_quiet (fail)
      go_wp2
      go_meet
      exact ⟨by rw [hb.out], _, rfl⟩
  case rest =>
  obtain ⟨rfl, nq, rfl⟩ := hcut
  have HR2 := Lib.hid (H1.out.below (below_drewN (Below.refl _ _) nq))
  have HM2 := Lib.hid (mod_drewN HM1.out nq)
  clear c0 c1 c2 f0 f1 f2 H1 HM1 hkk HHQ
  generalize w1.drewN nq = w2 at *
  obtain ⟨c0, ⟨q', c1, -⟩, c2, f0, f1, f2⟩ := RS.cellsB HR2.out
  go_upto_if 36 with fail
  go_cut [] from 3 (fun wx => Hid (RS bad w0 wx X (.slice a0 b.length cap) b (ReadS.blankS b (p, e)) ∧ Mod (fun k => k = X) w wx))
  case first =>
    rcases BL with _ | _
    · go_wp2
      go_meet
      case rel => exact ⟨by rw [blank_false HBL.out]; exact HR2.out, HM2.out⟩
    · go_wp2
      go_meet
      case rel => exact ⟨by rw [blank_true HBL.out]; exact RS.set2 HR2.out (k := 2) (by decide) _, HM2.out.trans (modX _ _ _ _)⟩
  case rest =>
  have HR3 := Lib.hid hcut.out.1
  have HM3 := Lib.hid hcut.out.2
  clear hcut HR2 HM2 c0 c1 c2 f0 f1 f2 HBL
  generalize ReadS.blankS b (p, e) = σ2 at *
  have hsz := ReadS.utS_size (b := b) (stop := 13) (may := okB) (σ := σ2)
  have HUC := Lib.hid (luntil_plain HR3.out)
  obtain ⟨u, hu⟩ : ∃ u, ReadS.utS b 13 okB σ2 = u := ⟨_, rfl⟩
  rw [hu] at HUC HVE hsz
  clear hu
  obtain ⟨s, p3, e3⟩ := u
  simp only at hsz HVE HUC
  have HPL := Lib.hid (fun W => rplain_any s (by unfold maxLen; omega) W)
  obtain ⟨bp, hbp⟩ : ∃ bp, plainL s.data.toList = bp := ⟨_, rfl⟩
  rw [hbp] at HVE HPL
  clear hbp hsz
  go_upto_region 6 with (first
    | (go_at_call 13; (with_reducible refine HUC.out.mono ?_); rintro e w4 ⟨rfl, hR4, hM4⟩; have HR4 := Lib.hid hR4; have HM4 := Lib.hid (HM3.out.trans hM4); clear hR4 hM4)
    | (go_at_call 38; (with_reducible refine (HPL.out _).mono ?_); rintro e w5 ⟨rfl, rfl⟩))
  obtain ⟨c0, ⟨q', c1, -⟩, c2, f0, f1, f2⟩ := RS.cellsB HR4.out
  by_cases h0 : e3 = 0
  · subst h0
    rcases bp with _ | _
    · have HN := Lib.hid (fun W (h : RS bad w0 W X (.slice a0 b.length cap) b (p3, 2)) => lmatch_any h ⟨#[13, 10]⟩ (by decide))
      have HR5 := Lib.hid (RS.set2 HR4.out (k := 2) (by decide) p3)
      have HM5 := Lib.hid (HM4.out.trans (modX w4 X 2 (.int .i64 ((2 : Nat) : Int))))
      have hne : ReadS.needS false (p3, 0) = (p3, 2) := if_pos ⟨rfl, rfl⟩
      rw [hne] at HVE
      clear hne
      go_wp2_with (go_at_call 14; (refine (HN.out _ HR5.out).mono ?_); rintro e w6 ⟨rfl, hR6, hM6⟩; have HR6 := Lib.hid hR6; have HM6 := Lib.hid (HM5.out.trans hM6); clear hR6 hM6)
      go_ret
      rw [HVE.out]
      exact ⟨rfl, HR6.out, HM6.out⟩
    · have HN := Lib.hid (lmatch_any HR4.out ⟨#[13, 10]⟩ (by decide))
      have hne : ReadS.needS true (p3, 0) = (p3, 0) := if_neg (by simp)
      rw [hne] at HVE
      clear hne
      go_wp2_with (go_at_call 14; (with_reducible refine HN.out.mono ?_); rintro e w6 ⟨rfl, hR6, hM6⟩; have HR6 := Lib.hid hR6; have HM6 := Lib.hid (HM4.out.trans hM6); clear hR6 hM6)
      go_ret
      rw [HVE.out]
      exact ⟨rfl, HR6.out, HM6.out⟩
  · have HN := Lib.hid (lmatch_any HR4.out ⟨#[13, 10]⟩ (by decide))
    have hne : ReadS.needS bp (p3, e3) = (p3, e3) := if_neg (fun h => h0 h.1)
    rw [hne] at HVE
    have e2 := cast_eq0 h0
    clear hne h0
    go_wp2_with (go_at_call 14; (with_reducible refine HN.out.mono ?_); rintro e w6 ⟨rfl, hR6, hM6⟩; have HR6 := Lib.hid hR6; have HM6 := Lib.hid (HM4.out.trans hM6); clear hR6 hM6)
    go_ret
    rw [HVE.out]
    exact ⟨rfl, HR6.out, HM6.out⟩
end Go.Proofs.YtkohbbnnjakhjaaDoor.ReadL
