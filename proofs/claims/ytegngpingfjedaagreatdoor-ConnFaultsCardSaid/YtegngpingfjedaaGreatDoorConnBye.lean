/-
  hear of Bye.
  Conditions: no head is half heard; nothing was told in this round.
-/
import Derived.Test.YtegngpingfjedaaGreatDoorConnHear
import Derived.Test.YtegngpingfjedaaGreatDoorConnWord
import Derived.Test.YtegngpingfjedaaGreatDoorConnEvent
namespace Go.Proofs.YtegngpingfjedaaGreatDoor.ConnS
open Go.RowKit Go.Shelf ModL ConnR BA WireBig SlicesB FrameC
set_option linter.unusedVariables false
set_option linter.unusedSimpArgs false

set_option maxRecDepth 100000 in
theorem slice4 (bb off c : Nat) (h : 8 ≤ c) (W : World) : (Instr.slice 30 (.slice (some ⟨bb, off, none⟩) 8 c) (some (.int .i64 4)) none none).run Tryz.prog W = .ok (.slice (some ⟨bb, off + 4, none⟩) 4 (c - 4)) W := by
  have hu : Tryz.prog.underlying 30 = some (.slice (Tryz.prog.elem 30)) := Tryz.underlying30
  have hs : (sizeOf (Tryz.prog.elem 30)).run Tryz.prog W = .ok 1 W := by kernel_rfl
  rw [run_slice_l (P := Tryz.prog) W 30 (some ⟨bb, off, none⟩) 8 c hu .i64 4 (by omega) (by omega), hs]
  simp only [Result.andThen, sliced]
  have e1 : ((4 : Int)).toNat = 4 := rfl
  rw [e1, Nat.mul_one, if_neg (by omega)]
  simp [Addr.add]
set_option maxRecDepth 100000 in
set_option maxHeartbeats 8000000 in
theorem hear_bye {base g : Nat} {w : World} {cs : Nat → Value} {inn out : List Int} (h : Cn base w g cs inn out) (h3 : cs 3 = .slice none 0 0) (h10 : cs 10 = .bool true) (h12 : cs 12 = .pointer none) (hlen : out.length ≤ 1099511627776) (a : Option Addr) (c : Nat) (z0 z1 z2 z3 x0 x1 x2 x3 : Int) (h0 : 0 ≤ x0 ∧ x0 ≤ 255) (h1 : 0 ≤ x1 ∧ x1 ≤ 255) (h2 : 0 ≤ x2 ∧ x2 ≤ 255) (hx3 : 0 ≤ x3 ∧ x3 ≤ 255) (h13 : cs 13 = .slice none 0 0) (hb : BytesAt w (.slice a 8 c) [z0, z1, z2, z3, x0, x1, x2, x3]) (hbg : ∀ k, (Value.slice a 8 c).ownBlock = some k → k ≠ g) :
    Calls Tryz.prog 46 #[.pointer (some ⟨g, 0, none⟩), .agg #[.int .i64 6, .int .i64 0, .int .i64 0, .slice a 8 c]] w fun e w' => e = .returned (.tuple #[]) ∧ ∃ b c', Cn base w' g (upd (upd cs 10 (.bool true)) 13 (.slice (some ⟨b, 0, none⟩) 1 c')) inn out ∧ OneE w' b 5 0 (x0 * 16777216 + x1 * 65536 + x2 * 256 + x3) false ∧ w.heap.size ≤ b ∧ Mod (fun k => k = g) w w' := by
  have c10 := h.r.at_ 10 (by decide)
  have f10 := h.r.fz 10 (by decide)
  have c12 := h.r.at_ 12 (by decide)
  rw [h10] at c10
  rw [h12] at c12
  have hgl := h.r.lt
  have HS := Lib.hid h
  have H3 := Lib.hid h3
  have HLN := Lib.hid hlen
  have hck := fun W => check_right (Fr.mk 6 0 0 [z0, z1, z2, z3, x0, x1, x2, x3]) a c (.inr (.inl ⟨rfl, rfl, rfl⟩)) W
  have HCK := Lib.hid hck
  have HB := Lib.hid hb
  have HBG := Lib.hid hbg
  have H13 := Lib.hid h13
  obtain ⟨ao, co, e9, hc1, hc2, hc3, hel⟩ := hb.open
  simp only [Value.slice.injEq] at e9
  obtain ⟨rfl, -, rfl⟩ := e9
  obtain ⟨bb, off, rfl, hbb, -⟩ := hel 0 (by simp)
  have hc8 : 8 ≤ c := hc1
  have hsl := slice4 bb off c hc8
  have HDR := Lib.hid (bytesAt_drop hb 4 (by simp))
  have HXS := Lib.hid (And.intro h0 (And.intro h1 (And.intro h2 hx3)))
  clear hel hc1 hc2 hc3
  clear h h3 hlen h10 hbg hb hck h12 h13 h0 h1 h2 hx3
  go_enter Tryz.func46, Tryz.ntmps46
  go_upto_region 1 with fail
  have hB0 : Below w.heap.size w (w.alloc (.cells #[.int .i64 6, .int .i64 0, .int .i64 0, .slice (some ⟨bb, off, none⟩) 8 c] 38)) := (Below.refl _ _).alloc (Nat.le_refl _) _
  have p0 : (w.alloc (.cells #[.int .i64 6, .int .i64 0, .int .i64 0, .slice (some ⟨bb, off, none⟩) 8 c] 38)).cell? ⟨w.heap.size, 0, none⟩ = some (.int .i64 6) := by simp
  have p1 : (w.alloc (.cells #[.int .i64 6, .int .i64 0, .int .i64 0, .slice (some ⟨bb, off, none⟩) 8 c] 38)).cell? ⟨w.heap.size, 1, none⟩ = some (.int .i64 0) := by simp
  have p2 : (w.alloc (.cells #[.int .i64 6, .int .i64 0, .int .i64 0, .slice (some ⟨bb, off, none⟩) 8 c] 38)).cell? ⟨w.heap.size, 2, none⟩ = some (.int .i64 0) := by simp
  have p3 : (w.alloc (.cells #[.int .i64 6, .int .i64 0, .int .i64 0, .slice (some ⟨bb, off, none⟩) 8 c] 38)).cell? ⟨w.heap.size, 3, none⟩ = some (.slice (some ⟨bb, off, none⟩) 8 c) := by simp
  have d10 := (hB0.cell (p := ⟨g, 10, none⟩) hgl).trans c10
  have df10 := (hB0.frozen (p := ⟨g, 10, none⟩) hgl).trans f10
  have d12 := (hB0.cell (p := ⟨g, 12, none⟩) hgl).trans c12
  have hs0 : w.heap.size < (w.alloc (.cells #[.int .i64 6, .int .i64 0, .int .i64 0, .slice (some ⟨bb, off, none⟩) 8 c] 38)).heap.size := by simp
  have HB0 := Lib.hid hB0
  clear hB0 c10 f10 c12
  generalize w.alloc (.cells #[.int .i64 6, .int .i64 0, .int .i64 0, .slice (some ⟨bb, off, none⟩) 8 c] 38) = w0 at *
  go_quiet (fail)
  have HB1 : Hid (Below w.heap.size w (w0.drewN nq)) := below_dN HB0.out nq
  replace p0 : (w0.drewN nq).cell? ⟨w.heap.size, 0, none⟩ = some (.int .i64 6) := p0
  replace p1 : (w0.drewN nq).cell? ⟨w.heap.size, 1, none⟩ = some (.int .i64 0) := p1
  replace p2 : (w0.drewN nq).cell? ⟨w.heap.size, 2, none⟩ = some (.int .i64 0) := p2
  replace p3 : (w0.drewN nq).cell? ⟨w.heap.size, 3, none⟩ = some (.slice (some ⟨bb, off, none⟩) 8 c) := p3
  replace d10 : (w0.drewN nq).cell? ⟨g, 10, none⟩ = some (.bool true) := d10
  replace df10 : (w0.drewN nq).frozen? ⟨g, 10, none⟩ = false := df10
  replace d12 : (w0.drewN nq).cell? ⟨g, 12, none⟩ = some (.pointer none) := d12
  replace hs0 : w.heap.size < (w0.drewN nq).heap.size := hs0
  clear HB0
  generalize w0.drewN nq = w1 at *
  have hgl1 : g < w1.heap.size := by omega
  have hne : g ≠ w.heap.size := by omega
  have hne2 : w.heap.size ≠ g := by omega
  have hbit : (bits BinOp.and IntKind.i64 0 1 != 0) = false := by rw [show bits BinOp.and IntKind.i64 0 1 = 0 from by simpa using BitsL.mask_i64 1 (by decide) 0 (by decide) (by decide)]; rfl
  go_wp2_with (first
    | (go_at_call 29; refine (HCK.out w1).mono ?_; rintro e w2 ⟨rfl, hB2⟩; have q0 := (hB2.cell (p := ⟨w.heap.size, 0, none⟩) hs0).trans p0; have q1 := (hB2.cell (p := ⟨w.heap.size, 1, none⟩) hs0).trans p1; have q2 := (hB2.cell (p := ⟨w.heap.size, 2, none⟩) hs0).trans p2; have q3 := (hB2.cell (p := ⟨w.heap.size, 3, none⟩) hs0).trans p3; have e10 := (hB2.cell (p := ⟨g, 10, none⟩) hgl1).trans d10; have ef10 := (hB2.frozen (p := ⟨g, 10, none⟩) hgl1).trans df10; have e12 := (hB2.cell (p := ⟨g, 12, none⟩) hgl1).trans d12; have HB2 := Lib.hid (HB1.out.trans (hB2.mono HB1.out.size)); clear hB2 p0 p1 p2 p3 d10 df10 d12)
    | (go_at_call 65; refine (word_any x0 x1 x2 x3 [] HXS.out.1 HXS.out.2.1 HXS.out.2.2.1 HXS.out.2.2.2 _ _ (bytes_setC (p := ⟨g, 10, none⟩) (u := .bool true) (HDR.out.below HB2.out) (fun e => HBG.out g e rfl))).mono ?_; rintro e w3 ⟨rfl, hB3⟩; have HB3 := Lib.hid hB3; clear hB3)
    | (go_at_call 88; have hC3 := ((HS.out.below HB2.out).set 10 (by decide) (by decide) (by decide) (.bool true)).below HB3.out; refine (event_nil hC3 (by rw [upd_other _ _ (by decide)]; exact H13.out) 5 0 (x0 * 16777216 + x1 * 65536 + x2 * 256 + x3) false).mono ?_; rintro e w4 ⟨rfl, b4, c4, hC4, hE4, hb4, hM4⟩; have HC4 := Lib.hid hC4; have HE4 := Lib.hid hE4; have HM4 := Lib.hid hM4; have Hb4 := Lib.hid hb4; clear hC3 hC4 hM4 hE4 hb4)
    | fail)
  all_goals
    go_end0
    have hM3 : Mod (fun k => k = g) w w2 := Mod.ofBelow HB2.out (fun k hk hge => by omega)
    have hM4 := (hM3.setCell (p := ⟨g, 10, none⟩) (fun _ => rfl) (.bool true)).below HB3.out (fun k hk hge => by have := HB2.out.size; simp at hge; omega)
    refine ⟨rfl, b4, c4, HC4.out, HE4.out, ?_, hM4.trans HM4.out⟩
    have h5 := Hb4.out
    have h6 := hM4.size
    omega
end Go.Proofs.YtegngpingfjedaaGreatDoor.ConnS
