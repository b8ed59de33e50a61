/-
  The walk of the law ConnBegins.
  Conditions: none.
-/
import Derived.Test.YtegngpingfjedaaConnFeeds
import Derived.Test.YtegngpingfjedaaConnFrames
import Derived.Test.YtegngpingfjedaaConnNew
import Derived.Test.YtegngpingfjedaaConnCopy
import Derived.Test.YtegngpingfjedaaConnLaw
import Derived.Test.YtegngpingfjedaaBytesArg
import Derived.Shelf.Spec.SlicesInsert
namespace Go.Proofs.Ytegngpingfjedaa.WalkConnBegins
open Go.RowKit ModL ConnR ConnS BA WireBig SlicesB FrameC FrameP
set_option linter.unusedVariables false
set_option linter.unusedSimpArgs false

theorem bytes_of_blockC {w w' : World} {v : Value} {l : List Int} (h : BytesAt w v l) (hb : ∀ g, v.ownBlock = some g → w'.heap[g]? = w.heap[g]?) (hs : w.heap.size ≤ w'.heap.size) : BytesAt w' v l := by
  obtain ⟨a, cap, rfl, h1, h2, h3, h4⟩ := h
  refine ⟨a, cap, rfl, h1, h2, h3, fun i hi => ?_⟩
  obtain ⟨b, off, rfl, hlt, hc⟩ := h4 i hi
  exact ⟨b, off, rfl, by omega, (World.cell?_of_block (a := ⟨b, off + i, none⟩) (hb b rfl)).trans hc⟩
theorem nilAt (W : World) : BytesAt W (.slice none 0 0) [] := ⟨none, 0, rfl, by simp [BytesL.valB], by simp, by simp, by simp [BytesL.valB]⟩
theorem touch_below {base g B : Nat} {w0 w1 w2 : World} {cs : Nat → Value} {inn out : List Int} (h : Cn base w1 g cs inn out) (hM : Mod (ConnS.Touch g cs) w1 w2) (hB : Below B w0 w1) (hBs : B ≤ w1.heap.size) (hg : B ≤ g) : Below B w0 w2 := by
  refine hB.trans (hM.toBelow (B := B) hBs ?_)
  have h1 := h.gb
  rintro k hk (e | e | e)
  · omega
  · have := (ownB_lt h.i k e.symm).1; omega
  · have := (ownB_lt h.o k e.symm).1; omega
set_option maxRecDepth 100000 in
theorem make_8 (w : World) : (Instr.makeSlice 22 (.int .i64 8) (.int .i64 8)).run Try.prog w = .ok (.slice (some ⟨w.heap.size, 0, none⟩) 8 8) (w.alloc (.cells #[.int .u8 0, .int .u8 0, .int .u8 0, .int .u8 0, .int .u8 0, .int .u8 0, .int .u8 0, .int .u8 0] 5)) := by
  kernel_rfl
set_option maxRecDepth 100000 in
set_option maxHeartbeats 8000000 in
theorem walk0 (kd fl st : Int) (vb : Value) (body : List Int) (code : Int) (w : World) (hb : BytesAt w vb body) (hby : Args.ByteL body) :
    Calls Try.prog 3 #[.int .i64 kd, .int .i64 fl, .int .i64 st, vb, .int .i64 code] w fun e w' => e = .returned (.bool true) ∧ Below w.heap.size w w' := by
  obtain ⟨ab, cb, rfl, -⟩ := hb.open
  have HB := Lib.hid hb
  have HBY := Lib.hid hby
  clear hb hby
  have hmk := make_8
  go_enter Try.func3, Try.ntmps3
  go_wp2_with (first
    | (go_at_call 4; refine (cnew_any w).mono ?_; rintro e w1 ⟨g, co, st0, m, v1, rfl, hC1, hB1, hg1⟩; have HC1 := Lib.hid hC1; have HB1 := Lib.hid hB1; have HG1 := Lib.hid hg1; clear hC1 hB1 hg1)
    | fail)
  have hcal1 : ConnS.Calm (upd (csN co st0 m) 5 v1) false := ⟨rfl, rfl, rfl, rfl⟩
  have HCAL1 := Lib.hid hcal1
  have hO1 := Lib.hid (out_any HC1.out)
  clear hcal1
  refine hO1.out.mono ?_
  rintro e w2 ⟨a2, n2, c2, rfl, hn2, hx2, hb2, hC2, hw2⟩
  have HC2 := Lib.hid hC2
  have HX2 := Lib.hid hx2
  have hB2 : Below w.heap.size w w2 := by
    rw [hw2]
    exact HB1.out.setCell HG1.out _
  have HB2 := Lib.hid hB2
  clear hC2 hx2 hb2 hw2 hB2 hn2 hO1
  have HF2 := Lib.hid (frames_one (Fr.mk 4 0 0 []) ⟨by simp [Fr.inRange], by simp⟩ (fun z hz => absurd hz (by simp)) (.slice a2 n2 c2) w2 HX2.out)
  go_wp2_with fail
  refine HF2.out.mono ?_
  rintro e w3 ⟨vl, rfl, ⟨b3, c3, a3, k3, rfl, q0, q1, q2, q3, hx3, hl3⟩, hB3⟩
  simp only at q0 q1 q2 q3
  have HC3 := Lib.hid (HC2.out.below hB3)
  have HB3 := Lib.hid (HB2.out.trans (hB3.mono HB2.out.size))
  have HCAL2 : Hid (ConnS.Calm (upd (upd (csN co st0 m) 5 v1) 5 (.slice none 0 0)) false) := HCAL1.out.upd 5 _ (by decide) (by decide) (by decide) (by decide)
  clear hB3 hx3 HF2
  have hlen0 : ([] : List Int).length = 0 := rfl
  have HO3 := Lib.hid (out_any HC3.out)
  have HSET := Lib.hid (encode_any (Fr.mk 4 0 0 []) (.slice none 0 0))
  go_wp2_with (first
    | (go_at_call 7; refine (over_any HC3.out HCAL2.out.c11).mono ?_; rintro e w4 ⟨rfl, rfl⟩)
    | (go_at_call 6; refine HO3.out.mono ?_; rintro e w4 ⟨a4, n4, c4, rfl, hn4, -, -, hC4, hw4⟩; simp only [List.length_nil] at hn4; subst hn4; have HC4 := Lib.hid hC4; have HB4 : Hid (Below w.heap.size w w4) := (by rw [hw4]; exact HB3.out.setCell HG1.out _); clear hC4 hw4)
    | fail)
  have HCAL4 : Hid (ConnS.Calm (upd (upd (upd (csN co st0 m) 5 v1) 5 (.slice none 0 0)) 5 (.slice none 0 0)) false) := HCAL2.out.upd 5 _ (by decide) (by decide) (by decide) (by decide)
  refine (HSET.out w4 (nilAt w4)).mono ?_
  rintro e w5 ⟨hB5, ⟨hno, -⟩ | ⟨-, hno, -⟩ | ⟨-, -, v5, rfl, hO5⟩⟩
  · exact absurd (by simp [Fr.inRange]) hno
  · exact absurd hno (by simp)
  obtain ⟨a5, k5, rfl, -⟩ := hO5.slice
  have HX5 := Lib.hid (BytesAt.of_own hO5)
  have HC5 := Lib.hid (HC4.out.below hB5)
  have HB5 := Lib.hid (HB4.out.trans (hB5.mono HB4.out.size))
  have HFD := Lib.hid (feed_set HC5.out HCAL4.out (by decide) _ HX5.out)
  clear hB5 hO5 HC2 HX2 HC3 HC4 HCAL1 HCAL2 HO3 HSET HC1
  generalize (Fr.mk 4 0 0 []).bytes.length = n5 at *
  go_upto_region 13 with (first
    | (go_at_call 9; refine HFD.out.mono ?_; rintro e w6 ⟨cs6, rfl, hC6, hcal6, hM6⟩; have HC6 := Lib.hid hC6; have HCAL6 := Lib.hid hcal6; have HB6 := Lib.hid (touch_below HC5.out hM6 HB5.out HB5.out.size HG1.out); clear hC6 hcal6 hM6)
    | (go_at_call 6; refine (out_any HC6.out).mono ?_; rintro e w7 ⟨a7, n7, c7, rfl, -, hx7, -, hC7, hw7⟩; have HX7 := Lib.hid hx7; have HC7 := Lib.hid hC7; have HB7 : Hid (Below w.heap.size w w7) := (by rw [hw7]; exact HB6.out.setCell HG1.out _); clear hx7 hC7 hw7)
    | (go_at_call 5; refine (frames_one (Fr.mk 4 1 0 []) ⟨by simp [Fr.inRange], by simp⟩ (fun z hz => absurd hz (by simp)) _ w7 HX7.out).mono ?_; rintro e w8 ⟨vl8, rfl, ⟨b8, c8, a8, k8, rfl, o0, o1, o2, o3, -, -⟩, hB8⟩; simp only at o0 o1 o2 o3; have HC8 := Lib.hid (HC7.out.below hB8); have HB8 := Lib.hid (HB7.out.trans (hB8.mono HB7.out.size)); clear hB8)
    | fail)
  all_goals try (go_ret; exact ⟨rfl, HB8.out⟩)
  obtain ⟨w9, k9, hr9, hx9, hB9⟩ := eight_any w8 (.slice ab body.length cb) body (HB.out.below HB8.out) 3
  have HX9 := Lib.hid hx9
  have HB9 := Lib.hid (HB8.out.trans (hB9.mono HB8.out.size))
  have HC9 := Lib.hid (HC8.out.below hB9)
  have HR9 := Lib.hid hr9
  clear hr9 hx9 hB9
  go_wp2_with (first
    | (refine Go.Proofs.wpList_copy_runI _ rfl _ _ 22 22 rfl _ _ rfl rfl HR9.out ?_)
    | fail)
  refine (encode_any (Fr.mk 5 0 0 (eightL body)) (.slice (some ⟨w8.heap.size, 0, none⟩) 8 8) w9 HX9.out).mono ?_
  rintro e w10 ⟨hB10, ⟨hno, -⟩ | ⟨-, hno, -⟩ | ⟨-, -, v10, rfl, hO10⟩⟩
  · exact absurd (by simp [Fr.inRange]) hno
  · exact absurd hno (by show ¬ 1024 < (eightL body).length; rw [eightL_len]; decide)
  obtain ⟨a10, k10, rfl, -⟩ := hO10.slice
  have HX10 := Lib.hid (BytesAt.of_own hO10)
  have HC10 := Lib.hid (HC9.out.below hB10)
  have HB10 := Lib.hid (HB9.out.trans (hB10.mono HB9.out.size))
  have HE10 := Lib.hid (HX9.out.below hB10)
  have HCAL10 : Hid (ConnS.Calm (upd cs6 5 (.slice none 0 0)) true) := HCAL6.out.upd 5 _ (by decide) (by decide) (by decide) (by decide)
  have HFP := Lib.hid (feed_ping HC10.out HCAL10.out (by decide) (eightL body) (eightL_len _) (eightL_by HBY.out) _ HX10.out)
  have H8 : Hid (g < w8.heap.size ∧ ∀ k, (upd cs6 5 (.slice none 0 0) 4).ownBlock = some k → k < w8.heap.size) := ⟨HC8.out.r.lt, fun k hk => (ownB_lt HC8.out.i k hk).2⟩
  clear hB10 hO10 HC9 HX9 HR9 HC8 HC7 HX7 HC6
  generalize (Fr.mk 5 0 0 (eightL body)).bytes.length = n10 at *
  go_upto_region 17 with (first
    | (go_at_call 9; refine HFP.out.mono ?_; rintro e w11 ⟨cs11, rfl, hC11, hcal11, hM11⟩; have HC11 := Lib.hid hC11; have HCAL11 := Lib.hid hcal11; have HB11 := Lib.hid (touch_below HC10.out hM11 HB10.out HB10.out.size HG1.out); have HM11 := Lib.hid hM11; clear hC11 hcal11 hM11)
    | (go_at_call 6; refine (out_any HC11.out).mono ?_; rintro e w12 ⟨a12, n12, c12, rfl, -, hx12, -, hC12, hw12⟩; have HX12 := Lib.hid hx12; have HC12 := Lib.hid hC12; have HB12 : Hid (Below w.heap.size w w12) := (by rw [hw12]; exact HB11.out.setCell HG1.out _); have HW12 := Lib.hid hw12; clear hx12 hC12 hw12)
    | (go_at_call 5; refine (frames_one (Fr.mk 5 1 0 (eightL body)) ⟨by simp [Fr.inRange], by show (eightL body).length ≤ 1024; rw [eightL_len]; decide⟩ (eightL_by HBY.out) _ w12 HX12.out).mono ?_; rintro e w13 ⟨vl13, rfl, ⟨b13, c13, a13, k13, rfl, p0, p1, p2, p3, p4, -⟩, hB13⟩; simp only at p0 p1 p2 p3 p4; have HP4 := Lib.hid p4; have HC13 := Lib.hid (HC12.out.below hB13); have HB13 := Lib.hid (HB12.out.trans (hB13.mono HB12.out.size)); have HBB13 := Lib.hid hB13; clear hB13 p4)
    | fail)
  have hE13 : BytesAt w13 (.slice (some ⟨w8.heap.size, 0, none⟩) 8 8) (eightL body) := by
    have h11 : BytesAt w11 (.slice (some ⟨w8.heap.size, 0, none⟩) 8 8) (eightL body) := by
      refine bytes_of_blockC HE10.out (fun k hk => ?_) HM11.out.size
      obtain rfl : w8.heap.size = k := by simpa [Value.ownBlock] using hk
      have hlt : w8.heap.size < w10.heap.size := by
        obtain ⟨_, _, e, -, -, -, hel⟩ := HE10.out.open
        obtain ⟨b, o, e2, hb, -⟩ := hel 0 (by rw [eightL_len]; decide)
        simp only [Value.slice.injEq] at e
        obtain ⟨rfl, -, -⟩ := e
        simp only [Option.some.injEq, Addr.mk.injEq, and_true] at e2
        omega
      refine HM11.out.block _ hlt ?_
      rintro (e | e | e)
      · have := H8.out.1; omega
      · have := H8.out.2 _ e.symm; omega
      · simp [upd, Value.ownBlock] at e
    have h12 : BytesAt w12 (.slice (some ⟨w8.heap.size, 0, none⟩) 8 8) (eightL body) := by
      rw [HW12.out]
      exact bytes_setC h11 (fun e => by have h9 : w8.heap.size = g := by simpa [Value.ownBlock] using e
                                        have := H8.out.1; omega)
    exact h12.below HBB13.out
  have hby8 := eightL_by HBY.out
  have hp4 := HP4.out
  rw [eightL_len] at hp4 p3
  have cz : ∀ n : Nat, (convert 22 9 (.slice (some ⟨w8.heap.size, 0, none⟩) 8 8)).run Try.prog (w13.drewN n) = .ok (.string (strOf (eightL body))) (w13.drewN n) := fun n => conv_back (hE13.below (below_dN (Below.refl _ _) n)) hby8
  have cb : ∀ n : Nat, (convert 22 9 (.slice a13 8 k13)).run Try.prog (w13.drewN n) = .ok (.string (strOf (eightL body))) (w13.drewN n) := fun n => conv_back (hp4.below (below_dN (Below.refl _ _) n)) hby8
  have cz0 := cz 0
  have cb0 := cb 0
  rw [show w13.drewN 0 = w13 from rfl] at cz0 cb0
  clear hE13 hby8 hp4
  generalize strOf (eightL body) = S8 at *
  go_quiet (fail)
  have HC14 := Lib.hid (HC13.out.below (below_dN (Below.refl _ _) nq))
  have HB14 : Hid (Below w.heap.size w (w13.drewN nq)) := below_dN HB13.out nq
  have HCAL14 : Hid (ConnS.Calm (upd cs11 5 (.slice none 0 0)) true) := HCAL11.out.upd 5 _ (by decide) (by decide) (by decide) (by decide)
  clear cz cb cz0 cb0 HC13 HB13 HC12 HX12 HC11 HM11 HE10 HBB13 HP4 p0 p1 p2 p3
  generalize w13.drewN nq = w14 at *
  generalize upd cs11 5 (.slice none 0 0) = cs14 at *
  go_upto_if 177 with fail
  go_cut [16, 20, 21] from 177 to 204 (fun _ _ _ wx => Hid (∃ cs, Cn (g + 1) wx g cs [] [] ∧ ConnS.Calm cs true ∧ Below w.heap.size w wx))
  case first => as_aux_lemma =>
    by_cases hk : 7 < kd
    · have HEN := Lib.hid (encode_any (Fr.mk kd fl st body) (.slice ab body.length cb) w14 (HB.out.below HB14.out))
      simp only [Fr.val] at HEN
      go_wp2_with (first
        | (go_at_call 8; refine HEN.out.mono ?_; rintro e w15 ⟨hB15, ⟨-, rfl⟩ | ⟨-, -, rfl⟩ | ⟨hin, hl1, v15, rfl, hO15⟩⟩)
        | fail)
      · go_meet
        exact ⟨_, HC14.out.below hB15, HCAL14.out, HB14.out.trans (hB15.mono HB14.out.size)⟩
      · go_meet
        exact ⟨_, HC14.out.below hB15, HCAL14.out, HB14.out.trans (hB15.mono HB14.out.size)⟩
      obtain ⟨a15, k15, rfl, -⟩ := hO15.slice
      have HC15 := Lib.hid (HC14.out.below hB15)
      have HB15 := Lib.hid (HB14.out.trans (hB15.mono HB14.out.size))
      have HFO := Lib.hid (feed_other HC15.out HCAL14.out (by decide) (Fr.mk kd fl st body) ⟨hin, hl1⟩ HBY.out (by show 8 ≤ kd; omega) _ (BytesAt.of_own hO15))
      clear hB15 hO15
      generalize (Fr.mk kd fl st body).bytes.length = n15 at *
      go_wp2_with (first
        | (go_at_call 9; refine HFO.out.mono ?_; rintro e w16 ⟨cs16, rfl, hC16, hcal16, hM16⟩; have HC16 := Lib.hid hC16; have HCAL16 := Lib.hid hcal16; have HB16 := Lib.hid (touch_below HC15.out hM16 HB15.out HB15.out.size HG1.out); clear hC16 hcal16 hM16)
        | (go_at_call 6; refine (out_any HC16.out).mono ?_; rintro e w17 ⟨a17, n17, c17, rfl, hn17, -, -, hC17, hw17⟩; simp only [List.length_nil] at hn17; subst hn17; have HC17 := Lib.hid hC17; have HCAL17 : Hid (ConnS.Calm (upd cs16 5 (.slice none 0 0)) true) := (HCAL16.out.upd 5 _ (by decide) (by decide) (by decide) (by decide)); have HB17 : Hid (Below w.heap.size w w17) := (by rw [hw17]; exact HB16.out.setCell HG1.out _); clear hC17 hw17)
        | (go_at_call 7; refine (over_any HC17.out HCAL17.out.c11).mono ?_; rintro e w18 ⟨rfl, rfl⟩)
        | fail)
      go_meet
      exact ⟨_, HC17.out, HCAL17.out, HB17.out⟩
    · go_wp2_with fail
      go_meet
      exact ⟨_, HC14.out, HCAL14.out, HB14.out⟩
  have HCO : Hid (0 ≤ code ∧ code ≤ 2147483647) := ⟨by omega, by omega⟩
  obtain ⟨cs, hCc, hcalc, hBc⟩ := hcut.out
  have HCC := Lib.hid hCc
  have HCALC := Lib.hid hcalc
  have HBC := Lib.hid hBc
  obtain ⟨x0, x1, x2, x3, hx, hx0, hx1, hx2, hx3, hsum⟩ : ∃ x0 x1 x2 x3 : Int, bigL 0 4 ++ bigL code 4 = [0, 0, 0, 0, x0, x1, x2, x3] ∧ (0 ≤ x0 ∧ x0 ≤ 255) ∧ (0 ≤ x1 ∧ x1 ≤ 255) ∧ (0 ≤ x2 ∧ x2 ≤ 255) ∧ (0 ≤ x3 ∧ x3 ≤ 255) ∧ x0 * 16777216 + x1 * 65536 + x2 * 256 + x3 = code := by
    have h0 := HCO.out.1
    have h1 := HCO.out.2
    exact ⟨code / 16777216, code / 65536 % 256, code / 256 % 256, code % 256, by simp [bigL], by omega, by omega, by omega, by omega, by omega⟩
  have HW0 := Lib.hid (lword_any 0 (by omega) (by omega))
  have HW1 := Lib.hid (lword_any code HCO.out.1 HCO.out.2)
  have HL0 : Hid ((bigL 0 4).length = 4) := rfl
  have HL1 : Hid ((bigL code 4).length = 4) := rfl
  have HBX : Hid (Args.ByteL [0, 0, 0, 0, x0, x1, x2, x3]) := by
    intro z hz
    simp only [List.mem_cons, List.not_mem_nil, or_false] at hz
    rcases hz with rfl | rfl | rfl | rfl | rfl | rfl | rfl | rfl
    all_goals first | omega | assumption
  have HX := Lib.hid hx
  have HXB := Lib.hid (And.intro hx0 (And.intro hx1 (And.intro hx2 hx3)))
  have HSUM := Lib.hid hsum
  clear hCc hcalc hBc hcut q0 q1 q2 q3 hl3 HX5 HFD HFP HX10 HC10 HB10 HC5 HB5 HCAL4 hx hx0 hx1 hx2 hx3 hsum HCO
  generalize hL0 : bigL 0 4 = L0 at *
  generalize hL1 : bigL code 4 = L1 at *
  have HLL := Lib.hid (And.intro hL0 hL1)
  clear hL0 hL1
  go_wp2_with fail
  refine (HW0.out wc).mono ?_
  rintro e w20 ⟨a20, c20, rfl, hO20, hB20⟩
  have HO20 := Lib.hid hO20
  have HB20 := Lib.hid hB20
  clear hO20 hB20
  go_wp2_with fail
  refine (HW1.out w20).mono ?_
  rintro e w21 ⟨a21, c21, rfl, hO21, hB21⟩
  have HO21 := Lib.hid hO21
  have HB21 := Lib.hid hB21
  clear hO21 hB21
  go_wp2_with (first
    | (at_builtin; refine wpList_append_bytes rfl _ _ rfl wc.heap.size (.slice a20 4 c20) L0 rfl (HO20.out.below HB21.out) (.slice a21 4 c21) L1 rfl (BytesAt.of_own HO21.out) (by rw [HL0.out, HL1.out]; decide) (Nat.le_trans HB20.out.size HB21.out.size) ?_; intro v22 w22 hO22 hB22 hg22 hat22; rw [HX.out] at hO22; obtain ⟨a22, k22, rfl, -⟩ := hO22.slice; have HO22 := Lib.hid hO22; have HB22 := Lib.hid (HB20.out.trans ((HB21.out.mono HB20.out.size).trans hB22)); clear hO22 hB22 hg22 hat22)
    | fail)
  refine (encode_any (Fr.mk 6 0 0 [0, 0, 0, 0, x0, x1, x2, x3]) (.slice a22 8 k22) w22 (BytesAt.of_own HO22.out)).mono ?_
  rintro e w23 ⟨hB23, ⟨hno, -⟩ | ⟨-, hno, -⟩ | ⟨-, -, v23, rfl, hO23⟩⟩
  · exact absurd (by simp [Fr.inRange]) hno
  · exact absurd hno (by simp)
  obtain ⟨a23, k23, rfl, -⟩ := hO23.slice
  have HC23 := Lib.hid (HCC.out.below (HB22.out.trans (hB23.mono HB22.out.size)))
  have HB23 := Lib.hid (HBC.out.trans ((HB22.out.trans (hB23.mono HB22.out.size)).mono HBC.out.size))
  have HFB := Lib.hid (feed_bye HC23.out HCALC.out (by decide) 0 0 0 0 x0 x1 x2 x3 HXB.out.1 HXB.out.2.1 HXB.out.2.2.1 HXB.out.2.2.2 HBX.out _ (BytesAt.of_own hO23))
  rw [HSUM.out] at HFB
  clear hB23 hO23
  generalize (Fr.mk 6 0 0 [0, 0, 0, 0, x0, x1, x2, x3]).bytes.length = n23 at *
  go_wp2_with (first
    | (go_at_call 9; refine HFB.out.mono ?_; rintro e w24 ⟨cs24, b24, c24, rfl, ⟨o0, o1, o2, -⟩, hC24, hcal24, hM24⟩; have HC24 := Lib.hid hC24; have HCAL24 := Lib.hid hcal24; have HB24 := Lib.hid (touch_below HC23.out hM24 HB23.out HB23.out.size HG1.out); clear hC24 hcal24 hM24)
    | (go_at_call 7; refine (over_any HC24.out HCAL24.out.c11).mono ?_; rintro e w25 ⟨rfl, rfl⟩)
    | fail)
  all_goals (go_ret; exact ⟨rfl, HB24.out⟩)
theorem walk (kd fl st : Int) (vb : Value) (body : List Int) (code : Int) (w : World) (h0 : Args.I64 kd) (h1 : Args.I64 fl) (h2 : Args.I64 st) (hb : Args.BytesAt w vb body) (h4 : Args.I64 code) :
    Calls Try.prog 3 #[.int .i64 kd, .int .i64 fl, .int .i64 st, vb, .int .i64 code] w fun e w' => e = .returned (.bool true) ∧ Below w.heap.size w w' :=
  walk0 kd fl st vb body code w hb.1 hb.2
end Go.Proofs.Ytegngpingfjedaa.WalkConnBegins
