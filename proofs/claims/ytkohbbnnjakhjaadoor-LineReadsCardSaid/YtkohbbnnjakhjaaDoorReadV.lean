/-
  Package line's reader: value, body, fault.
  Conditions: where the bytes lie.
-/
import Derived.Test.YtkohbbnnjakhjaaDoorReadU
import Derived.Test.YtkohbbnnjakhjaaDoorSlicesB
namespace Go.Proofs.YtkohbbnnjakhjaaDoor.ReadC
open Go.RowKit BA ChunkD ModL LineC
set_option linter.unusedVariables false
set_option linter.unusedSimpArgs false

theorem mod_below {S : Nat → Prop} {w w1 w2 : World} (h : Mod S w w1) (hB : Below w1.heap.size w1 w2) : Mod S w w2 := h.below hB (fun k hk hle => absurd hle (by have := h.size; omega))
theorem errN2 : errN 2 = .iface 63 (.int .i64 2) := rfl
theorem errN4 : errN 4 = .iface 63 (.int .i64 4) := rfl
theorem errN8 : errN 8 = .iface 63 (.int .i64 8) := rfl
theorem bne_of {a b : Int} (h : a ≠ b) : (a == b) = false := beq_eq_false_iff_ne.2 h
set_option maxRecDepth 100000 in
set_option maxHeartbeats 4000000 in
theorem value_any {w0 w : World} {X : Nat} {v : Value} {b : List Int} {σ : Nat × Nat} (h : RS errN w0 w X v b σ) :
    Calls Tryd.prog 24 #[.pointer (some ⟨X, 0, none⟩)] w fun e w' => e = .returned (.string (ReadS.valS b σ).1) ∧ RS errN w0 w' X v b (ReadS.valS b σ).2 ∧ Mod (fun k => k = X) w w' := by
  have HC1 := Lib.hid (rmt_any h ⟨#[58, 32]⟩ (by decide))
  obtain ⟨V, hV⟩ : ∃ V, ReadS.valS b σ = V := ⟨_, rfl⟩
  rw [hV]
  have HV := Lib.hid hV
  clear hV
  obtain ⟨a0, cap, rfl, hc1, hc2, hnil, _⟩ := h.by0.open
  have hlen := h.len
  clear h
  go_enter Tryd.func24, Tryd.ntmps24
  go_wp2_with (go_at_call 22; (with_reducible refine HC1.out.mono ?_); rintro e w1 ⟨rfl, hR1, hM1⟩)
  have h1 : RS errN w0 w1 X (.slice a0 b.length cap) b (ReadS.mtS b [58, 32] σ) := hR1
  have HVE : Hid (V = ((ReadS.utS b 13 okB (ReadS.blankS b (ReadS.mtS b [58, 32] σ))).1, ReadS.mtS b [13, 10] (ReadS.needS (plainL (ReadS.utS b 13 okB (ReadS.blankS b (ReadS.mtS b [58, 32] σ))).1.data.toList) (ReadS.utS b 13 okB (ReadS.blankS b (ReadS.mtS b [58, 32] σ))).2))) := by
    show V = _; rw [← HV.out]; rfl
  generalize ReadS.mtS b [58, 32] σ = σ1 at *
  obtain ⟨p, e⟩ := σ1
  have H1 := Lib.hid h1
  have HM1 := Lib.hid hM1
  obtain ⟨c0, ⟨q, q1, q2, q3⟩, c2, f0, f1, f2⟩ := h1.rd
  have HBY := Lib.hid h1.bytes
  obtain ⟨a1, cc1, e1, _, _, _, hel⟩ := h1.bytes.open
  simp only [Value.slice.injEq] at e1
  obtain ⟨rfl, _, rfl⟩ := e1
  have HEL := Lib.hid hel
  simp only at c2 q3
  have hkk := h1.ok
  simp only at hkk
  clear hR1 hM1 h1 hel HV HC1
  obtain ⟨L, hL⟩ : ∃ L, b.length = L := ⟨_, rfl⟩
  rw [hL] at c0 hkk hlen hc1
  have HL := Lib.hid hL
  clear hL hnil
  have key : ∀ σ2, ReadS.blankS b (p, e) = σ2 → Hid (V = ((ReadS.utS b 13 okB σ2).1, ReadS.mtS b [13, 10] (ReadS.needS (plainL (ReadS.utS b 13 okB σ2).1.data.toList) (ReadS.utS b 13 okB σ2).2))) := fun σ2 h => by
    have := HVE.out; rw [h] at this; exact this
  by_cases h0 : e = 0
  · subst h0
    have hpq : q = p := q3 rfl
    subst hpq
    rw [errN0] at c2
    have hqL := hkk rfl
    clear q3 hkk
    by_cases hlt : q < L
    · obtain ⟨bb, off, rfl, hbb, hcell⟩ := HEL.out q (by rw [HL.out]; exact hlt)
      obtain ⟨z, hzk⟩ : ∃ z, b.getD q 0 = z := ⟨_, rfl⟩
      rw [hzk] at hcell
      have d1 : decide ((q : Int) < (L : Int)) = true := decide_eq_true (by omega)
      have d2 : decide (q < L) = true := decide_eq_true hlt
      have i0 : (0 : Int) ≤ (q : Int) := by omega
      have i1 : (q : Int) < (L : Int) := by omega
      by_cases h3 : z = 32
      · have hb : ReadS.blankS b (q, 0) = (q, 2) := by unfold ReadS.blankS; rw [if_pos ⟨rfl, by rw [HL.out]; exact hlt, by rw [hzk]; exact h3⟩]
        have HK := key _ hb
        have HRS := Lib.hid (fun n => H1.out.step (mod1 w1 n X 2 (errN 2)) ((H1.out.rd.drewN n).fault (e := 2) (by decide) q) (by intro h; cases h))
        have HMD := Lib.hid (fun n => HM1.out.trans (mod1 w1 n X 2 (errN 2)))
        rw [errN2] at HRS HMD
        have h3' : (z == 32) = true := by rw [h3]; rfl
        clear hb key hzk hlt
        go_quiet (fail)
        obtain ⟨u, hu⟩ : ∃ u, ReadS.utS b 13 okB (q, 2) = u := ⟨_, rfl⟩
        have HUC := Lib.hid (fun n => until_plain (HRS.out n))
        rw [hu] at HK HUC
        clear hu
        go_wp2_with (first
          | (go_at_call 19; (with_reducible refine (HUC.out _).mono ?_); rintro e w3 ⟨rfl, hR3, hM3⟩; have HR3 := Lib.hid hR3; have HM3 := Lib.hid ((HMD.out _).trans hM3); clear hR3 hM3 HRS HMD HUC)
          | (go_at_call 43; (with_reducible refine (plain_any _ _).mono ?_); rintro e w4 ⟨rfl, hB4⟩; have HR4 := Lib.hid (HR3.out.below hB4); have HM4 := Lib.hid (mod_below HM3.out hB4); clear hB4)
          | (go_at_call 21; (with_reducible refine (need_any HR4.out _).mono ?_); rintro e w5 ⟨rfl, hR5, hM5⟩; have HR5 := Lib.hid hR5; have HM5 := Lib.hid (HM4.out.trans hM5); clear hR5 hM5)
          | (go_at_call 22; (with_reducible refine (rmt_any HR5.out ⟨#[13, 10]⟩ (by decide)).mono ?_); rintro e w6 ⟨rfl, hR6, hM6⟩; have HR6 := Lib.hid hR6; have HM6 := Lib.hid (HM5.out.trans hM6); clear hR6 hM6))
        go_ret
        rw [HK.out]
        exact ⟨rfl, HR6.out, HM6.out⟩
      · have hb : ReadS.blankS b (q, 0) = (q, 0) := by unfold ReadS.blankS; rw [if_neg (by rintro ⟨_, _, h⟩; rw [hzk] at h; exact h3 h)]
        have HK := key _ hb
        have HRS := Lib.hid (fun n => H1.out.below (below_drewN (Below.refl _ _) n))
        have HMD := Lib.hid (fun n => mod_drewN HM1.out n)
        have h3' : (z == 32) = false := bne_of h3
        clear hb key hzk hlt h3
        go_quiet (fail)
        obtain ⟨u, hu⟩ : ∃ u, ReadS.utS b 13 okB (q, 0) = u := ⟨_, rfl⟩
        have HUC := Lib.hid (fun n => until_plain (HRS.out n))
        rw [hu] at HK HUC
        clear hu
        go_wp2_with (first
          | (go_at_call 19; (with_reducible refine (HUC.out _).mono ?_); rintro e w3 ⟨rfl, hR3, hM3⟩; have HR3 := Lib.hid hR3; have HM3 := Lib.hid ((HMD.out _).trans hM3); clear hR3 hM3 HRS HMD HUC)
          | (go_at_call 43; (with_reducible refine (plain_any _ _).mono ?_); rintro e w4 ⟨rfl, hB4⟩; have HR4 := Lib.hid (HR3.out.below hB4); have HM4 := Lib.hid (mod_below HM3.out hB4); clear hB4)
          | (go_at_call 21; (with_reducible refine (need_any HR4.out _).mono ?_); rintro e w5 ⟨rfl, hR5, hM5⟩; have HR5 := Lib.hid hR5; have HM5 := Lib.hid (HM4.out.trans hM5); clear hR5 hM5)
          | (go_at_call 22; (with_reducible refine (rmt_any HR5.out ⟨#[13, 10]⟩ (by decide)).mono ?_); rintro e w6 ⟨rfl, hR6, hM6⟩; have HR6 := Lib.hid hR6; have HM6 := Lib.hid (HM5.out.trans hM6); clear hR6 hM6))
        go_ret
        rw [HK.out]
        exact ⟨rfl, HR6.out, HM6.out⟩
    · have hqq : q = L := by omega
      subst hqq
      have hb : ReadS.blankS b (q, 0) = (q, 0) := by unfold ReadS.blankS; rw [if_neg (by rintro ⟨_, h, _⟩; rw [HL.out] at h; simp only at h; omega)]
      have HK := key _ hb
      have HRS := Lib.hid (fun n => H1.out.below (below_drewN (Below.refl _ _) n))
      have HMD := Lib.hid (fun n => mod_drewN HM1.out n)
      have d1 : decide ((q : Int) < (q : Int)) = false := decide_eq_false (by omega)
      have d2 : decide (q < q) = false := decide_eq_false (by omega)
      clear hb key hlt
      go_quiet (fail)
      obtain ⟨u, hu⟩ : ∃ u, ReadS.utS b 13 okB (q, 0) = u := ⟨_, rfl⟩
      have HUC := Lib.hid (fun n => until_plain (HRS.out n))
      rw [hu] at HK HUC
      clear hu
      go_wp2_with (first
        | (go_at_call 19; (with_reducible refine (HUC.out _).mono ?_); rintro e w3 ⟨rfl, hR3, hM3⟩; have HR3 := Lib.hid hR3; have HM3 := Lib.hid ((HMD.out _).trans hM3); clear hR3 hM3 HRS HMD HUC)
        | (go_at_call 43; (with_reducible refine (plain_any _ _).mono ?_); rintro e w4 ⟨rfl, hB4⟩; have HR4 := Lib.hid (HR3.out.below hB4); have HM4 := Lib.hid (mod_below HM3.out hB4); clear hB4)
        | (go_at_call 21; (with_reducible refine (need_any HR4.out _).mono ?_); rintro e w5 ⟨rfl, hR5, hM5⟩; have HR5 := Lib.hid hR5; have HM5 := Lib.hid (HM4.out.trans hM5); clear hR5 hM5)
        | (go_at_call 22; (with_reducible refine (rmt_any HR5.out ⟨#[13, 10]⟩ (by decide)).mono ?_); rintro e w6 ⟨rfl, hR6, hM6⟩; have HR6 := Lib.hid hR6; have HM6 := Lib.hid (HM5.out.trans hM6); clear hR6 hM6))
      go_ret
      rw [HK.out]
      exact ⟨rfl, HR6.out, HM6.out⟩
  · have hb : ReadS.blankS b (p, e) = (p, e) := by unfold ReadS.blankS; rw [if_neg (fun h => h0 h.1)]
    have HK := key _ hb
    have HRS := Lib.hid (fun n => H1.out.below (below_drewN (Below.refl _ _) n))
    have HMD := Lib.hid (fun n => mod_drewN HM1.out n)
    rw [errNk h0] at c2
    clear hb key h0 q3 hkk
    go_quiet (fail)
    obtain ⟨u, hu⟩ : ∃ u, ReadS.utS b 13 okB (p, e) = u := ⟨_, rfl⟩
    have HUC := Lib.hid (fun n => until_plain (HRS.out n))
    rw [hu] at HK HUC
    clear hu
    go_wp2_with (first
      | (go_at_call 19; (with_reducible refine (HUC.out _).mono ?_); rintro e w3 ⟨rfl, hR3, hM3⟩; have HR3 := Lib.hid hR3; have HM3 := Lib.hid ((HMD.out _).trans hM3); clear hR3 hM3 HRS HMD HUC)
      | (go_at_call 43; (with_reducible refine (plain_any _ _).mono ?_); rintro e w4 ⟨rfl, hB4⟩; have HR4 := Lib.hid (HR3.out.below hB4); have HM4 := Lib.hid (mod_below HM3.out hB4); clear hB4)
      | (go_at_call 21; (with_reducible refine (need_any HR4.out _).mono ?_); rintro e w5 ⟨rfl, hR5, hM5⟩; have HR5 := Lib.hid hR5; have HM5 := Lib.hid (HM4.out.trans hM5); clear hR5 hM5)
      | (go_at_call 22; (with_reducible refine (rmt_any HR5.out ⟨#[13, 10]⟩ (by decide)).mono ?_); rintro e w6 ⟨rfl, hR6, hM6⟩; have HR6 := Lib.hid hR6; have HM6 := Lib.hid (HM5.out.trans hM6); clear hR6 hM6))
    go_ret
    rw [HK.out]
    exact ⟨rfl, HR6.out, HM6.out⟩
end Go.Proofs.YtkohbbnnjakhjaaDoor.ReadC
