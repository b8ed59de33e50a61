/-
  hear of Set without settings, of Ping, of kinds that are not known.
  Conditions: no head is half heard; nothing waits.
-/
import Derived.Test.YtegngpingfjedaaGreatDoorConnSettings
import Derived.Deep.QuietTactic
import Derived.BigQuiet
namespace Go.Proofs.YtegngpingfjedaaGreatDoor.ConnS
open Go.RowKit Go.Shelf ModL ConnR BA WireBig SlicesB FrameC
set_option linter.unusedVariables false
set_option linter.unusedSimpArgs false

theorem below_dN {B : Nat} {w w' : World} (h : Below B w w') (n : Nat) : Below B w (w'.drewN n) := ⟨h.os, h.tape, h.output, h.size, h.block⟩
theorem bytes_setC {w : World} {v : Value} {l : List Int} {p : Addr} {u : Value} (h : BytesAt w v l) (hne : v.ownBlock ≠ some p.block) : BytesAt (w.setCell p u) v l := by
  obtain ⟨a, cap, rfl, h1, h2, h3, h4⟩ := h
  refine ⟨a, cap, rfl, h1, h2, h3, fun i hi => ?_⟩
  obtain ⟨b, off, rfl, hlt, hc⟩ := h4 i hi
  refine ⟨b, off, rfl, by simpa using hlt, (World.cell?_setCell_other _ _ _ _ ?_).trans hc⟩
  intro e
  exact hne (by rw [e]; rfl)
set_option maxRecDepth 100000 in
set_option maxHeartbeats 8000000 in
theorem hear_set {base g : Nat} {w : World} {cs : Nat → Value} {inn out : List Int} (h : Cn base w g cs inn out) (h3 : cs 3 = .slice none 0 0) (h10 : ∃ b, cs 10 = .bool b) (h12 : cs 12 = .pointer none) (hlen : out.length ≤ 1099511627776) (a : Option Addr) (c : Nat) :
    Calls Tryz.prog 46 #[.pointer (some ⟨g, 0, none⟩), .agg #[.int .i64 4, .int .i64 0, .int .i64 0, .slice a 0 c]] w fun e w' => e = .returned (.tuple #[]) ∧ ∃ v', Cn base w' g (upd (upd cs 10 (.bool true)) 5 v') inn (out ++ (Fr.mk 4 1 0 []).bytes) ∧ Mod (fun k => k = g ∨ some k = (cs 5).ownBlock) w w' := by
  obtain ⟨bg, hbg⟩ := h10
  have c10 := h.r.at_ 10 (by decide)
  have f10 := h.r.fz 10 (by decide)
  have c12 := h.r.at_ 12 (by decide)
  rw [hbg] at c10
  rw [h12] at c12
  have hgl := h.r.lt
  have HS := Lib.hid h
  have H3 := Lib.hid h3
  have HLN := Lib.hid hlen
  have HCK := Lib.hid (fun W => check_set a c W)
  clear h h3 hlen hbg h12
  go_enter Tryz.func46, Tryz.ntmps46
  go_upto_region 1 with fail
  have hB0 : Below w.heap.size w (w.alloc (.cells #[.int .i64 4, .int .i64 0, .int .i64 0, .slice a 0 c] 38)) := (Below.refl _ _).alloc (Nat.le_refl _) _
  have p0 : (w.alloc (.cells #[.int .i64 4, .int .i64 0, .int .i64 0, .slice a 0 c] 38)).cell? ⟨w.heap.size, 0, none⟩ = some (.int .i64 4) := by simp
  have p1 : (w.alloc (.cells #[.int .i64 4, .int .i64 0, .int .i64 0, .slice a 0 c] 38)).cell? ⟨w.heap.size, 1, none⟩ = some (.int .i64 0) := by simp
  have p2 : (w.alloc (.cells #[.int .i64 4, .int .i64 0, .int .i64 0, .slice a 0 c] 38)).cell? ⟨w.heap.size, 2, none⟩ = some (.int .i64 0) := by simp
  have p3 : (w.alloc (.cells #[.int .i64 4, .int .i64 0, .int .i64 0, .slice a 0 c] 38)).cell? ⟨w.heap.size, 3, none⟩ = some (.slice a 0 c) := by simp
  have d10 := (hB0.cell (p := ⟨g, 10, none⟩) hgl).trans c10
  have df10 := (hB0.frozen (p := ⟨g, 10, none⟩) hgl).trans f10
  have d12 := (hB0.cell (p := ⟨g, 12, none⟩) hgl).trans c12
  have hs0 : w.heap.size < (w.alloc (.cells #[.int .i64 4, .int .i64 0, .int .i64 0, .slice a 0 c] 38)).heap.size := by simp
  have HB0 := Lib.hid hB0
  clear hB0 c10 f10 c12
  generalize w.alloc (.cells #[.int .i64 4, .int .i64 0, .int .i64 0, .slice a 0 c] 38) = w0 at *
  go_quiet (fail)
  have HB1 : Hid (Below w.heap.size w (w0.drewN nq)) := below_dN HB0.out nq
  replace p0 : (w0.drewN nq).cell? ⟨w.heap.size, 0, none⟩ = some (.int .i64 4) := p0
  replace p1 : (w0.drewN nq).cell? ⟨w.heap.size, 1, none⟩ = some (.int .i64 0) := p1
  replace p2 : (w0.drewN nq).cell? ⟨w.heap.size, 2, none⟩ = some (.int .i64 0) := p2
  replace p3 : (w0.drewN nq).cell? ⟨w.heap.size, 3, none⟩ = some (.slice a 0 c) := p3
  replace d10 : (w0.drewN nq).cell? ⟨g, 10, none⟩ = some (.bool bg) := d10
  replace df10 : (w0.drewN nq).frozen? ⟨g, 10, none⟩ = false := df10
  replace d12 : (w0.drewN nq).cell? ⟨g, 12, none⟩ = some (.pointer none) := d12
  replace hs0 : w.heap.size < (w0.drewN nq).heap.size := hs0
  clear HB0
  generalize w0.drewN nq = w1 at *
  have hgl1 : g < w1.heap.size := by omega
  have hne : g ≠ w.heap.size := by omega
  have hne2 : w.heap.size ≠ g := by omega
  have hbit : (bits BinOp.and IntKind.i64 0 1 != 0) = false := by rw [show bits BinOp.and IntKind.i64 0 1 = 0 from by simpa using BitsL.mask_i64 1 (by decide) 0 (by decide) (by decide)]; rfl
  go_wp2_with (first
    | (go_at_call 29; refine (HCK.out w1).mono ?_; rintro e w2 ⟨rfl, hB2⟩; have q0 := (hB2.cell (p := ⟨w.heap.size, 0, none⟩) hs0).trans p0; have q1 := (hB2.cell (p := ⟨w.heap.size, 1, none⟩) hs0).trans p1; have q2 := (hB2.cell (p := ⟨w.heap.size, 2, none⟩) hs0).trans p2; have q3 := (hB2.cell (p := ⟨w.heap.size, 3, none⟩) hs0).trans p3; have e10 := (hB2.cell (p := ⟨g, 10, none⟩) hgl1).trans d10; have ef10 := (hB2.frozen (p := ⟨g, 10, none⟩) hgl1).trans df10; have e12 := (hB2.cell (p := ⟨g, 12, none⟩) hgl1).trans d12; have HB2 := Lib.hid (HB1.out.trans (hB2.mono HB1.out.size)); clear hB2 p0 p1 p2 p3 d10 df10 d12)
    | (go_at_call 89; have hC3 := (HS.out.below HB2.out).set 10 (by decide) (by decide) (by decide) (.bool true); refine (settings_nil hC3 (by rw [upd_other _ _ (by decide)]; exact H3.out) HLN.out a c).mono ?_; rintro e w4 ⟨rfl, v4, hC4, hM4⟩; have HC4 := Lib.hid hC4; have HM4 := Lib.hid hM4; clear hC3 hC4 hM4)
    | fail)
  all_goals
    go_end0
    refine ⟨rfl, v4, HC4.out, ?_⟩
    have hM3 : Mod (fun k => k = g ∨ some k = (cs 5).ownBlock) w (w2.setCell ⟨g, 10, none⟩ (.bool true)) := (Mod.ofBelow HB2.out (fun k hk hge => by omega)).setCell (fun _ => .inl rfl) _
    exact hM3.andThen HM4.out (fun k hk e => by rw [upd_other _ _ (by decide)] at e; exact e)
set_option maxRecDepth 100000 in
set_option maxHeartbeats 8000000 in
theorem hear_ping {base g : Nat} {w : World} {cs : Nat → Value} {inn out : List Int} (h : Cn base w g cs inn out) (h3 : cs 3 = .slice none 0 0) (h10 : cs 10 = .bool true) (h12 : cs 12 = .pointer none) (hlen : out.length ≤ 1099511627776) (a : Option Addr) (c : Nat) (l : List Int) (hl8 : l.length = 8) (hb : BytesAt w (.slice a 8 c) l) (hbg : ∀ k, (Value.slice a 8 c).ownBlock = some k → k ≠ g) :
    Calls Tryz.prog 46 #[.pointer (some ⟨g, 0, none⟩), .agg #[.int .i64 5, .int .i64 0, .int .i64 0, .slice a 8 c]] w fun e w' => e = .returned (.tuple #[]) ∧ ∃ v', Cn base w' g (upd (upd cs 10 (.bool true)) 5 v') inn (out ++ (Fr.mk 5 1 0 l).bytes) ∧ Mod (fun k => k = g ∨ some k = (cs 5).ownBlock) w w' := by
  have c10 := h.r.at_ 10 (by decide)
  have f10 := h.r.fz 10 (by decide)
  have c12 := h.r.at_ 12 (by decide)
  rw [h10] at c10
  rw [h12] at c12
  have hgl := h.r.lt
  have HS := Lib.hid h
  have H3 := Lib.hid h3
  have HLN := Lib.hid hlen
  have hck := fun W => check_right (Fr.mk 5 0 0 l) a c (.inl ⟨rfl, rfl, hl8⟩) W
  simp only [hl8] at hck
  have HCK := Lib.hid hck
  have HB := Lib.hid hb
  have HBG := Lib.hid hbg
  have HL8 := Lib.hid hl8
  clear h h3 hlen h10 hbg hb hl8 hck h12
  go_enter Tryz.func46, Tryz.ntmps46
  go_upto_region 1 with fail
  have hB0 : Below w.heap.size w (w.alloc (.cells #[.int .i64 5, .int .i64 0, .int .i64 0, .slice a 8 c] 38)) := (Below.refl _ _).alloc (Nat.le_refl _) _
  have p0 : (w.alloc (.cells #[.int .i64 5, .int .i64 0, .int .i64 0, .slice a 8 c] 38)).cell? ⟨w.heap.size, 0, none⟩ = some (.int .i64 5) := by simp
  have p1 : (w.alloc (.cells #[.int .i64 5, .int .i64 0, .int .i64 0, .slice a 8 c] 38)).cell? ⟨w.heap.size, 1, none⟩ = some (.int .i64 0) := by simp
  have p2 : (w.alloc (.cells #[.int .i64 5, .int .i64 0, .int .i64 0, .slice a 8 c] 38)).cell? ⟨w.heap.size, 2, none⟩ = some (.int .i64 0) := by simp
  have p3 : (w.alloc (.cells #[.int .i64 5, .int .i64 0, .int .i64 0, .slice a 8 c] 38)).cell? ⟨w.heap.size, 3, none⟩ = some (.slice a 8 c) := by simp
  have d10 := (hB0.cell (p := ⟨g, 10, none⟩) hgl).trans c10
  have df10 := (hB0.frozen (p := ⟨g, 10, none⟩) hgl).trans f10
  have d12 := (hB0.cell (p := ⟨g, 12, none⟩) hgl).trans c12
  have hs0 : w.heap.size < (w.alloc (.cells #[.int .i64 5, .int .i64 0, .int .i64 0, .slice a 8 c] 38)).heap.size := by simp
  have HB0 := Lib.hid hB0
  clear hB0 c10 f10 c12
  generalize w.alloc (.cells #[.int .i64 5, .int .i64 0, .int .i64 0, .slice a 8 c] 38) = w0 at *
  go_quiet (fail)
  have HB1 : Hid (Below w.heap.size w (w0.drewN nq)) := below_dN HB0.out nq
  replace p0 : (w0.drewN nq).cell? ⟨w.heap.size, 0, none⟩ = some (.int .i64 5) := p0
  replace p1 : (w0.drewN nq).cell? ⟨w.heap.size, 1, none⟩ = some (.int .i64 0) := p1
  replace p2 : (w0.drewN nq).cell? ⟨w.heap.size, 2, none⟩ = some (.int .i64 0) := p2
  replace p3 : (w0.drewN nq).cell? ⟨w.heap.size, 3, none⟩ = some (.slice a 8 c) := p3
  replace d10 : (w0.drewN nq).cell? ⟨g, 10, none⟩ = some (.bool true) := d10
  replace df10 : (w0.drewN nq).frozen? ⟨g, 10, none⟩ = false := df10
  replace d12 : (w0.drewN nq).cell? ⟨g, 12, none⟩ = some (.pointer none) := d12
  replace hs0 : w.heap.size < (w0.drewN nq).heap.size := hs0
  clear HB0
  generalize w0.drewN nq = w1 at *
  have hgl1 : g < w1.heap.size := by omega
  have hne : g ≠ w.heap.size := by omega
  have hne2 : w.heap.size ≠ g := by omega
  have hbit : (bits BinOp.and IntKind.i64 0 1 != 0) = false := by rw [show bits BinOp.and IntKind.i64 0 1 = 0 from by simpa using BitsL.mask_i64 1 (by decide) 0 (by decide) (by decide)]; rfl
  go_wp2_with (first
    | (go_at_call 29; refine (HCK.out w1).mono ?_; rintro e w2 ⟨rfl, hB2⟩; have q0 := (hB2.cell (p := ⟨w.heap.size, 0, none⟩) hs0).trans p0; have q1 := (hB2.cell (p := ⟨w.heap.size, 1, none⟩) hs0).trans p1; have q2 := (hB2.cell (p := ⟨w.heap.size, 2, none⟩) hs0).trans p2; have q3 := (hB2.cell (p := ⟨w.heap.size, 3, none⟩) hs0).trans p3; have e10 := (hB2.cell (p := ⟨g, 10, none⟩) hgl1).trans d10; have ef10 := (hB2.frozen (p := ⟨g, 10, none⟩) hgl1).trans df10; have e12 := (hB2.cell (p := ⟨g, 12, none⟩) hgl1).trans d12; have HB2 := Lib.hid (HB1.out.trans (hB2.mono HB1.out.size)); clear hB2 p0 p1 p2 p3 d10 df10 d12)
    | (go_at_call 54; have hC3 := (HS.out.below HB2.out).set 10 (by decide) (by decide) (by decide) (.bool true); refine (say_any hC3 (Fr.mk 5 1 0 l) (.slice a 8 c) (bytes_setC (HB.out.below HB2.out) (fun e => HBG.out g e rfl)) (by simp [Fr.inRange]) (by show l.length ≤ 1024; rw [HL8.out]; decide) HLN.out).mono ?_; rintro e w4 ⟨rfl, v4, hC4, hM4⟩; have HC4 := Lib.hid hC4; have HM4 := Lib.hid hM4; clear hC3 hC4 hM4)
    | fail)
  all_goals
    go_end0
    refine ⟨rfl, v4, HC4.out, ?_⟩
    have hM3 : Mod (fun k => k = g ∨ some k = (cs 5).ownBlock) w (w2.setCell ⟨g, 10, none⟩ (.bool true)) := (Mod.ofBelow HB2.out (fun k hk hge => by omega)).setCell (fun _ => .inl rfl) _
    exact hM3.andThen HM4.out (fun k hk e => by rw [upd_other _ _ (by decide)] at e; exact e)
set_option maxRecDepth 100000 in
set_option maxHeartbeats 8000000 in
theorem hear_other {base g : Nat} {w : World} {cs : Nat → Value} {inn out : List Int} (h : Cn base w g cs inn out) (h3 : cs 3 = .slice none 0 0) (h10 : cs 10 = .bool true) (h12 : cs 12 = .pointer none) (hlen : out.length ≤ 1099511627776) (a : Option Addr) (c : Nat) (kd fl st : Int) (l : List Int) (hk : 8 ≤ kd) :
    Calls Tryz.prog 46 #[.pointer (some ⟨g, 0, none⟩), .agg #[.int .i64 kd, .int .i64 fl, .int .i64 st, .slice a l.length c]] w fun e w' => e = .returned (.tuple #[]) ∧ Cn base w' g (upd cs 10 (.bool true)) inn out ∧ Mod (fun k => k = g) w w' := by
  have c10 := h.r.at_ 10 (by decide)
  have f10 := h.r.fz 10 (by decide)
  have c12 := h.r.at_ 12 (by decide)
  rw [h10] at c10
  rw [h12] at c12
  have hgl := h.r.lt
  have HS := Lib.hid h
  have H3 := Lib.hid h3
  have HLN := Lib.hid hlen
  have hck := fun W => check_right (Fr.mk kd fl st l) a c (.inr (.inr hk)) W
  have HCK := Lib.hid hck
  generalize l.length = nl at *
  have k0 : ¬ kd = 0 := by omega
  have k1 : ¬ kd = 1 := by omega
  have k2 : ¬ kd = 2 := by omega
  have k3 : ¬ kd = 3 := by omega
  have k4 : ¬ kd = 4 := by omega
  have k5 : ¬ kd = 5 := by omega
  have k6 : ¬ kd = 6 := by omega
  have k7 : ¬ kd = 7 := by omega
  have b0 : (kd == 0) = false := beq_false_of_ne k0
  have b1 : (kd == 1) = false := beq_false_of_ne k1
  have b2 : (kd == 2) = false := beq_false_of_ne k2
  have b3 : (kd == 3) = false := beq_false_of_ne k3
  have b4 : (kd == 4) = false := beq_false_of_ne k4
  have b5 : (kd == 5) = false := beq_false_of_ne k5
  have b6 : (kd == 6) = false := beq_false_of_ne k6
  have b7 : (kd == 7) = false := beq_false_of_ne k7
  clear h h3 hlen h10 h12 hck hk
  go_enter Tryz.func46, Tryz.ntmps46
  go_upto_region 1 with fail
  have hB0 : Below w.heap.size w (w.alloc (.cells #[.int .i64 kd, .int .i64 fl, .int .i64 st, .slice a nl c] 38)) := (Below.refl _ _).alloc (Nat.le_refl _) _
  have p0 : (w.alloc (.cells #[.int .i64 kd, .int .i64 fl, .int .i64 st, .slice a nl c] 38)).cell? ⟨w.heap.size, 0, none⟩ = some (.int .i64 kd) := by simp
  have p1 : (w.alloc (.cells #[.int .i64 kd, .int .i64 fl, .int .i64 st, .slice a nl c] 38)).cell? ⟨w.heap.size, 1, none⟩ = some (.int .i64 fl) := by simp
  have p2 : (w.alloc (.cells #[.int .i64 kd, .int .i64 fl, .int .i64 st, .slice a nl c] 38)).cell? ⟨w.heap.size, 2, none⟩ = some (.int .i64 st) := by simp
  have p3 : (w.alloc (.cells #[.int .i64 kd, .int .i64 fl, .int .i64 st, .slice a nl c] 38)).cell? ⟨w.heap.size, 3, none⟩ = some (.slice a nl c) := by simp
  have d10 := (hB0.cell (p := ⟨g, 10, none⟩) hgl).trans c10
  have df10 := (hB0.frozen (p := ⟨g, 10, none⟩) hgl).trans f10
  have d12 := (hB0.cell (p := ⟨g, 12, none⟩) hgl).trans c12
  have hs0 : w.heap.size < (w.alloc (.cells #[.int .i64 kd, .int .i64 fl, .int .i64 st, .slice a nl c] 38)).heap.size := by simp
  have HB0 := Lib.hid hB0
  clear hB0 c10 f10 c12
  generalize w.alloc (.cells #[.int .i64 kd, .int .i64 fl, .int .i64 st, .slice a nl c] 38) = w0 at *
  go_quiet (fail)
  have HB1 : Hid (Below w.heap.size w (w0.drewN nq)) := below_dN HB0.out nq
  replace p0 : (w0.drewN nq).cell? ⟨w.heap.size, 0, none⟩ = some (.int .i64 kd) := p0
  replace p1 : (w0.drewN nq).cell? ⟨w.heap.size, 1, none⟩ = some (.int .i64 fl) := p1
  replace p2 : (w0.drewN nq).cell? ⟨w.heap.size, 2, none⟩ = some (.int .i64 st) := p2
  replace p3 : (w0.drewN nq).cell? ⟨w.heap.size, 3, none⟩ = some (.slice a nl c) := p3
  replace d10 : (w0.drewN nq).cell? ⟨g, 10, none⟩ = some (.bool true) := d10
  replace df10 : (w0.drewN nq).frozen? ⟨g, 10, none⟩ = false := df10
  replace d12 : (w0.drewN nq).cell? ⟨g, 12, none⟩ = some (.pointer none) := d12
  replace hs0 : w.heap.size < (w0.drewN nq).heap.size := hs0
  clear HB0
  generalize w0.drewN nq = w1 at *
  have hgl1 : g < w1.heap.size := by omega
  have hne : g ≠ w.heap.size := by omega
  have hne2 : w.heap.size ≠ g := by omega
  go_wp2_with (first
    | (go_at_call 29; refine (HCK.out w1).mono ?_; rintro e w2 ⟨rfl, hB2⟩; have q0 := (hB2.cell (p := ⟨w.heap.size, 0, none⟩) hs0).trans p0; have q1 := (hB2.cell (p := ⟨w.heap.size, 1, none⟩) hs0).trans p1; have q2 := (hB2.cell (p := ⟨w.heap.size, 2, none⟩) hs0).trans p2; have q3 := (hB2.cell (p := ⟨w.heap.size, 3, none⟩) hs0).trans p3; have e10 := (hB2.cell (p := ⟨g, 10, none⟩) hgl1).trans d10; have ef10 := (hB2.frozen (p := ⟨g, 10, none⟩) hgl1).trans df10; have e12 := (hB2.cell (p := ⟨g, 12, none⟩) hgl1).trans d12; have HB2 := Lib.hid (HB1.out.trans (hB2.mono HB1.out.size)); clear hB2 p0 p1 p2 p3 d10 df10 d12)
    | fail)
  all_goals
    go_end0
    have hM3 : Mod (fun k => k = g) w w2 := Mod.ofBelow HB2.out (fun k hk hge => by omega)
    exact ⟨rfl, (HS.out.below HB2.out).set 10 (by decide) (by decide) (by decide) (.bool true), hM3.setCell (fun _ => rfl) _⟩
end Go.Proofs.YtegngpingfjedaaGreatDoor.ConnS
