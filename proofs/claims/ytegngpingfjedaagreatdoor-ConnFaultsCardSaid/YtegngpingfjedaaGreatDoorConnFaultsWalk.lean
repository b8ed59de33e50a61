/-
  The walk of the law ConnFaults.
  Conditions: the variable errors.errorType holds the handle of the type error; how long what comes behind is.
-/
import Derived.Test.YtegngpingfjedaaGreatDoorConnWrong
import Derived.Test.YtegngpingfjedaaGreatDoorConnOver
import Derived.Test.YtegngpingfjedaaGreatDoorConnFrames
import Derived.Test.YtegngpingfjedaaGreatDoorFrameArg
import Derived.Test.YtegngpingfjedaaGreatDoorTold
namespace Go.Proofs.YtegngpingfjedaaGreatDoor.WalkConnFaults
open Go.RowKit ModL ConnR ConnS ToldC BA WireBig SlicesB FrameC FrameP
set_option linter.unusedVariables false
set_option linter.unusedSimpArgs false

theorem StM.grown {B g st m : Nat} {w w' : World} {row : Option Nat} (h : StM B g st m w) (hg : w.grownBy w' row) (hr : ∀ k, row = some k → k < B) : StM B g st m w' := by
  obtain ⟨⟨ms, hS, h1, h2⟩, hM, h3, h4⟩ := h
  have hne : ∀ k, B ≤ k → ¬ some k = row := fun k hk e => by have := hr k e.symm; omega
  refine ⟨⟨ms, hS.mod (T := fun k => some k = row) ((Mod.refl _ w).grown hg (fun k hk _ => hk.symm)) (hne st h1.1) (hne ms h2.1), h1, h2⟩, hM.kept hg (hne m h3), h3, h4⟩
theorem cn_grown {base g : Nat} {w w' : World} {cs : Nat → Value} {inn out : List Int} {row : Option Nat} (h : Cn base w g cs inn out) (hg : w.grownBy w' row) (hr : ∀ k, row = some k → k < g) : Cn base w' g cs inn out := by
  have hgb := h.gb
  exact h.of_blocks (hg.block g h.r.lt (fun e => by have := hr g e.symm; omega)) (fun k hk => hg.block k (ownB_lt h.i k hk).2 (fun e => by have := hr k e.symm; have := (ownB_lt h.i k hk).1; omega)) (fun k hk => hg.block k (ownB_lt h.o k hk).2 (fun e => by have := hr k e.symm; have := (ownB_lt h.o k hk).1; omega)) hg.size
theorem num_code (code : Int) (h : 0 ≤ code ∧ code ≤ 6) : numL ((bigL code 4).take (4 : Int).toNat) = code := by
  have : (bigL code 4).take (4 : Int).toNat = bigL code 4 := rfl
  rw [this, num4]
  omega
set_option maxRecDepth 100000 in
set_option maxHeartbeats 8000000 in
theorem walk (f : Fr) (vb vm : Value) (more : List Int) (w : World) (hf : BytesAt w vb f.body ∧ Args.FrOk f) (hm : Args.BytesAt w vm more)
    (hg : w.cell? ⟨0, 0, none⟩ = some (.iface 211 (.agg #[.pointer (some ⟨4, 27, none⟩)]))) (hml : more.length ≤ 140737488351232) :
    Calls Tryz.prog 6 #[f.val vb, vm] w fun e w' => e = .returned (.bool true) ∧ Below w.heap.size w w' := by
  obtain ⟨hfb, -, -, -, hby⟩ := hf
  obtain ⟨hmb, hmy⟩ := hm
  obtain ⟨ab, cb, rfl, -⟩ := hfb.open
  obtain ⟨am, cm, rfl, -⟩ := hmb.open
  have HFB := Lib.hid hfb
  have HBY := Lib.hid hby
  have HMB := Lib.hid hmb
  have HMY := Lib.hid (And.intro hmy hml)
  have hEL : 0 < w.heap.size := block_lt_of_cell hg
  have HG := Lib.hid (And.intro hg hEL)
  have HC5 := Lib.hid (fun W => check_any (Fr.mk 5 0 0 []) (by decide) (by decide) (fun z hz => absurd hz (by simp)) none 0 W (nilAt W))
  rw [show checkS (Fr.mk 5 0 0 []) = 6 from by simp [checkS, sizesB]] at HC5
  have HEN := Lib.hid (encode_any f (.slice ab f.body.length cb))
  simp only [Fr.val] at HEN ⊢
  obtain ⟨nb, hnb⟩ : ∃ n, f.body.length = n := ⟨_, rfl⟩
  obtain ⟨nm, hnm⟩ : ∃ n, more.length = n := ⟨_, rfl⟩
  have HNB := Lib.hid hnb
  have HNM := Lib.hid hnm
  rw [hnb] at HEN ⊢
  rw [hnm]
  clear hfb hby hmb hmy hml hg hEL hnb hnm
  go_enter Tryz.func6, Tryz.ntmps6
  go_wp2_with fail
  have hB0 : Below w.heap.size w (w.alloc (.cells #[.int .i64 f.kind, .int .i64 f.flags, .int .i64 f.stream, .slice ab nb cb] 38)) := (Below.refl _ _).alloc (Nat.le_refl _) _
  have p0 : (w.alloc (.cells #[.int .i64 f.kind, .int .i64 f.flags, .int .i64 f.stream, .slice ab nb cb] 38)).cell? ⟨w.heap.size, 0, none⟩ = some (.int .i64 f.kind) := by simp
  have p1 : (w.alloc (.cells #[.int .i64 f.kind, .int .i64 f.flags, .int .i64 f.stream, .slice ab nb cb] 38)).cell? ⟨w.heap.size, 1, none⟩ = some (.int .i64 f.flags) := by simp
  have p2 : (w.alloc (.cells #[.int .i64 f.kind, .int .i64 f.flags, .int .i64 f.stream, .slice ab nb cb] 38)).cell? ⟨w.heap.size, 2, none⟩ = some (.int .i64 f.stream) := by simp
  have p3 : (w.alloc (.cells #[.int .i64 f.kind, .int .i64 f.flags, .int .i64 f.stream, .slice ab nb cb] 38)).cell? ⟨w.heap.size, 3, none⟩ = some (.slice ab nb cb) := by simp
  have hs0 : w.heap.size < (w.alloc (.cells #[.int .i64 f.kind, .int .i64 f.flags, .int .i64 f.stream, .slice ab nb cb] 38)).heap.size := by simp
  have HB0 := Lib.hid hB0
  clear hB0
  generalize w.alloc (.cells #[.int .i64 f.kind, .int .i64 f.flags, .int .i64 f.stream, .slice ab nb cb] 38) = w0 at *
  refine (HC5.out w0).mono ?_
  rintro e w1 ⟨rfl, hB1⟩
  have q0 := (hB1.cell (p := ⟨w.heap.size, 0, none⟩) hs0).trans p0
  have q1 := (hB1.cell (p := ⟨w.heap.size, 1, none⟩) hs0).trans p1
  have q2 := (hB1.cell (p := ⟨w.heap.size, 2, none⟩) hs0).trans p2
  have q3 := (hB1.cell (p := ⟨w.heap.size, 3, none⟩) hs0).trans p3
  have hs1 := Nat.lt_of_lt_of_le hs0 hB1.size
  have HB1 := Lib.hid (HB0.out.trans (hB1.mono HB0.out.size))
  clear hB1 p0 p1 p2 p3 hs0 HB0 HC5
  go_wp2_with fail
  refine (HEN.out w1 (by have h := HFB.out.below HB1.out; rwa [HNB.out] at h)).mono ?_
  rintro e w2 ⟨hB2, ⟨hno, rfl⟩ | ⟨-, hno, rfl⟩ | ⟨hin, hle, v2, rfl, hO2⟩⟩
  · go_wp2_with fail
    go_ret
    exact ⟨rfl, HB1.out.trans (hB2.mono HB1.out.size)⟩
  · go_wp2_with fail
    go_ret
    exact ⟨rfl, HB1.out.trans (hB2.mono HB1.out.size)⟩
  rw [← HNB.out] at hle
  have HGD : Hid (good f) := ⟨hin, hle⟩
  obtain ⟨a2, k2, e2, -⟩ := hO2.slice
  obtain ⟨n2, hn2⟩ : ∃ n, f.bytes.length = n := ⟨_, rfl⟩
  have HN2 := Lib.hid hn2
  rw [hn2] at e2
  subst e2
  have HO2 := Lib.hid hO2
  have r0 := (hB2.cell (p := ⟨w.heap.size, 0, none⟩) hs1).trans q0
  have r1 := (hB2.cell (p := ⟨w.heap.size, 1, none⟩) hs1).trans q1
  have r2 := (hB2.cell (p := ⟨w.heap.size, 2, none⟩) hs1).trans q2
  have r3 := (hB2.cell (p := ⟨w.heap.size, 3, none⟩) hs1).trans q3
  have hs2 := Nat.lt_of_lt_of_le hs1 hB2.size
  have HW12 : Hid (w1.heap.size ≤ w2.heap.size) := hB2.size
  have HB2 := Lib.hid (HB1.out.trans (hB2.mono HB1.out.size))
  have HK := Lib.hid (check_any f hin.2.1 hle HBY.out ab cb w2 (HFB.out.below HB2.out))
  rw [HNB.out] at HK
  have HCB := Lib.hid (checkS_bd f)
  generalize hcode : checkS f = code at *
  have HCODE := Lib.hid hcode
  clear hB2 q0 q1 q2 q3 hin hle hO2 hn2 HEN hcode
  go_wp2_with fail
  refine HK.out.mono ?_
  rintro e w3 ⟨rfl, hB3⟩
  have s0 := (hB3.cell (p := ⟨w.heap.size, 0, none⟩) hs2).trans r0
  have hs3 := Nat.lt_of_lt_of_le hs2 hB3.size
  have HO3 := Lib.hid (HO2.out.below hB3)
  have HB3 := Lib.hid (HB2.out.trans (hB3.mono HB2.out.size))
  have HW13 : Hid (w1.heap.size ≤ w3.heap.size) := Nat.le_trans HW12.out hB3.size
  clear hB3 r0 r1 r2 r3 HK HO2
  go_wp2_with fail
  refine (begun_any w3).mono ?_
  rintro e w4 ⟨g, st, m, cs, rfl, hC4, hcal4, h14, h24, hS4, hB4, hg4⟩
  have t0 := (hB4.cell (p := ⟨w.heap.size, 0, none⟩) hs3).trans s0
  have hs4 := Nat.lt_of_lt_of_le hs3 hB4.size
  have HO4 := Lib.hid (HO3.out.below hB4)
  have HB4 := Lib.hid (HB3.out.trans (hB4.mono HB3.out.size))
  have HC4 := Lib.hid hC4
  have HCAL := Lib.hid hcal4
  have H12 := Lib.hid (And.intro h14 h24)
  have HS4 := Lib.hid hS4
  have HG4 := Lib.hid hg4
  have HX3 : Hid (∀ k, (Value.slice a2 n2 k2).ownBlock = some k → k < w3.heap.size) := fun k hk => (ownB_lt HO3.out k hk).2
  clear hB4 hC4 hcal4 h14 h24 hS4 hg4 s0 HO3
  go_wp2_with fail
  refine (cnew_all w4).mono ?_
  rintro e w5 ⟨g5, co5, st5, m5, v5, rfl, hC5, hB5, hg5, hS5, hM5, -⟩
  have u0 := (hB5.cell (p := ⟨w.heap.size, 0, none⟩) hs4).trans t0
  have HC5 := Lib.hid hC5
  have HB5 := Lib.hid hB5
  have HG5 := Lib.hid hg5
  have HS5 : Hid (StM w4.heap.size g5 st5 m5 w5) := ⟨hS5, hM5⟩
  have hcal5 : ConnS.Calm (upd (csN co5 st5 m5) 5 v5) false := ⟨rfl, rfl, rfl, rfl⟩
  have HCAL5 := Lib.hid hcal5
  clear hC5 hB5 hg5 hS5 hM5 hcal5 t0
  go_wp2_with fail
  refine (out_any HC5.out).mono ?_
  rintro e w6 ⟨a6, n6, c6, rfl, -, -, -, hC6, hw6⟩
  have HB6 : Hid (Below w4.heap.size w4 w6) := by
    show Below _ _ _
    rw [hw6]
    exact HB5.out.setCell HG5.out _
  have HS6 : Hid (StM w4.heap.size g5 st5 m5 w6) := HS5.out.below (by rw [hw6]; exact (Below.refl g5 w5).setCell (p := ⟨g5, 5, none⟩) (Nat.le_refl g5) _)
  have hs5 := Nat.lt_of_lt_of_le hs4 HB5.out.size
  have x0 : w6.cell? ⟨w.heap.size, 0, none⟩ = some (.int .i64 f.kind) := by
    rw [hw6, World.cell?_setCell_other _ _ _ _ (by first | (simp; done) | (simp; have := HG5.out; omega))]; exact u0
  have HC6 := Lib.hid hC6
  have HCAL6 := Lib.hid (HCAL5.out.upd 5 (.slice none 0 0) (by decide) (by decide) (by decide) (by decide))
  clear hC6 hw6 u0 hs5 HC5 HB5 HS5 HCAL5
  go_upto_if 42 with fail
  go_cut [11] from 42 to 67 (fun _ wx => Hid (Below w4.heap.size w4 wx))
  case first => as_aux_lemma =>
    by_cases hk : f.kind = 4
    · have b4 : (f.kind != 4) = false := by rw [hk]; rfl
      go_wp2_with fail
      go_meet
      exact HB6.out
    · have b4 : (f.kind != 4) = true := bne_iff_ne.2 hk
      obtain ⟨⟨ms5, hSS, hst5, hms5⟩, -⟩ := HS6.out
      have HFW := Lib.hid (feed_wrong HC6.out HCAL6.out st5 ms5 [] 0 rfl hSS hst5.2 hms5.2 (by decide) (by decide) f HGD.out HBY.out [] (fun z hz => absurd hz (by simp)) (by rw [List.append_nil, bytes_len]; have := HGD.out.2; omega) (.slice a2 n2 k2) (by rw [List.append_nil]; exact BytesAt.of_own (HO4.out.below HB6.out)) 1 (.inl ⟨rfl, hk, rfl⟩))
      clear hSS hk
      go_wp2_with fail
      refine HFW.out.mono ?_
      rintro e w7 ⟨cs7, b7, c7, rfl, ⟨o0, o1, o2, -⟩, -, hC7, h117, -, hM7⟩
      have HB7 := Lib.hid (touch_below HC6.out hM7 HB6.out HB6.out.size HG5.out)
      have HOV := Lib.hid (over_any hC7 h117)
      clear hC7 h117 hM7
      go_wp2_with fail
      refine HOV.out.mono ?_
      rintro e w8 ⟨rfl, rfl⟩
      go_wp2_with fail
      go_meet
      exact HB7.out
  have HBC := hcut
  clear hcut HB6 HS6 HC6 HCAL6 HG5 x0
  by_cases hz : code = 0
  · subst hz
    go_wp2_with fail
    go_ret
    exact ⟨rfl, HB4.out.trans (HBC.out.mono HB4.out.size)⟩
  have bz : (code == 0) = false := beq_false_of_ne hz
  have HZ := Lib.hid hz
  have HOX := Lib.hid (HO4.out.below HBC.out)
  have HCX := Lib.hid (HC4.out.below HBC.out)
  have HSX := Lib.hid (HS4.out.below (HBC.out.mono (Nat.le_of_lt HC4.out.r.lt)))
  have HMX := Lib.hid (HMB.out.below (HB4.out.trans (HBC.out.mono HB4.out.size)))
  have HBX := Lib.hid (HB4.out.trans (HBC.out.mono HB4.out.size))
  have HMX2 : Hid (BytesAt wc (.slice am nm cm) more) := by have h := HMX.out; rwa [HNM.out] at h
  have HXW : Hid (w1.heap.size ≤ wc.heap.size) := by
    have h1 := HBC.out.size
    have h2 := HG4.out
    have h3 := HC4.out.r.lt
    show _ ≤ _
    have h4 : w1.heap.size ≤ w3.heap.size := HW13.out
    omega
  clear hz HBC HMX HO4 HC4 HS4
  go_wp2_with (first
    | (at_builtin; refine wpList_append_bytes rfl _ _ rfl w1.heap.size (.slice a2 n2 k2) f.bytes (by first | rfl | (rw [HN2.out])) HOX.out _ _ rfl HMX2.out (by have := HMY.out.2; have := HGD.out.2; have := bytes_len f; omega) HXW.out ?_; intro v8 w8 hO8 hB8 hg8 hat8; obtain ⟨a8, k8, e8, -⟩ := hO8.slice; obtain ⟨n8, hn8⟩ : ∃ n, (f.bytes ++ more).length = n := ⟨_, rfl⟩; rw [hn8] at e8; subst e8; have HN8 := Lib.hid hn8; have HO8 := Lib.hid hO8; have HG8 := Lib.hid hg8; have HB8 := Lib.hid hB8; clear hO8 hg8 hB8 hat8 hn8)
    | fail)
  have HGG : Hid (w.heap.size ≤ g) := by
    show _ ≤ _
    have h1 := HB3.out.size
    have h2 := HG4.out
    omega
  have HR8 : Hid (∀ k, (Value.slice a2 n2 k2).ownBlock = some k → k < w3.heap.size) := HX3
  have HC8 := Lib.hid (cn_grown HCX.out HG8.out (fun k hk => by have := HR8.out k hk; have := HG4.out; omega))
  have HS8 := Lib.hid (StM.grown HSX.out HG8.out (fun k hk => HR8.out k hk))
  have HB8' : Hid (Below w.heap.size w w8) := HBX.out.trans (HB8.out.mono HB1.out.size)
  obtain ⟨⟨ms8, hSS, hst8, hms8⟩, -⟩ := HS8.out
  have hFW := feed_wrong HC8.out HCAL.out st ms8 [] 0 H12.out.1 hSS hst8.2 hms8.2 (by decide) (by decide) f HGD.out HBY.out more HMY.out.1 (by rw [List.length_append, bytes_len]; have := HGD.out.2; have := HMY.out.2; omega) (.slice a8 n8 k8) (BytesAt.of_own HO8.out) code (.inr ⟨.inl rfl, HCODE.out, HZ.out⟩)
  rw [List.nil_append] at hFW
  have HFW := Lib.hid hFW
  clear hFW hSS
  refine HFW.out.mono ?_
  rintro e w9 ⟨cs9, b9, c9, rfl, hE9, hb9, hC9, h119, h29, hM9⟩
  have HB9 := Lib.hid (touch_below HC8.out hM9 HB8'.out HB8'.out.size HGG.out)
  have HS9 := Lib.hid (HS8.out.below (touch_below HC8.out hM9 (Below.refl g w8) (Nat.le_of_lt HC8.out.r.lt) (Nat.le_refl g)))
  have HE9 := Lib.hid hE9
  have Hb9 := Lib.hid hb9
  have HC9 := Lib.hid hC9
  have H9 := Lib.hid (And.intro h119 (h29.trans H12.out.2))
  clear hE9 hb9 hC9 h119 h29 hM9 HFW
  go_wp2_with fail
  refine (out_any HC9.out).mono ?_
  rintro e w10 ⟨a10, n10, c10, rfl, -, hx10, -, hC10, hw10⟩
  have HE10 := Lib.hid (oneE_of (w' := w10) HE9.out (fun _ hk => by rw [hw10]; exact set_block _ _ _ hk (by have := Hb9.out; simp only; omega)) (by rw [hw10]; simp))
  have HB10 : Hid (Below w.heap.size w w10) := by
    show Below _ _ _
    rw [hw10]
    exact HB9.out.setCell HGG.out _
  have HS10 := Lib.hid (HS9.out.below (w' := w10) (by rw [hw10]; exact (Below.refl g w9).setCell (p := ⟨g, 5, none⟩) (Nat.le_refl g) _))
  have HC10 := Lib.hid hC10
  have H10 : Hid (upd cs9 5 (.slice none 0 0) 11 = .bool true ∧ upd cs9 5 (.slice none 0 0) 2 = .map (some m)) := ⟨by rw [upd_other _ _ (by decide)]; exact H9.out.1, by rw [upd_other _ _ (by decide)]; exact H9.out.2⟩
  have hcd6 := HCB.out
  have HFR := Lib.hid (frames_one (byeF 0 code) ⟨by simp [byeF, Fr.inRange], by show 8 ≤ 1024; decide⟩ (fun z hz => by
    have hz' : z ∈ bigL 0 4 ++ bigL code 4 := hz
    rcases List.mem_append.1 hz' with h | h
    · exact bigL_bd 0 4 (by omega) (by omega) (by decide) z h
    · exact bigL_bd code 4 (by omega) hcd6.1 (by rw [most4]; omega) z h) _ w10 hx10)
  clear hx10 hC10 hw10 hcd6 HE9 HB9 HS9 HC9 H9
  generalize upd cs9 5 (.slice none 0 0) = cs10 at *
  go_wp2_with fail
  refine HFR.out.mono ?_
  rintro e w11 ⟨vl, rfl, ⟨b11, c11, a11, k11, rfl, o0, o1, o2, o3, o4, -⟩, hB11⟩
  have hl8 : (byeF 0 code).body.length = 8 := rfl
  rw [hl8] at o3 o4
  simp only [byeF] at o0 o1 o2 o4
  obtain ⟨_, _, e9, hk11, -, -, hel⟩ := o4.open
  simp only [Value.slice.injEq] at e9
  obtain ⟨rfl, -, rfl⟩ := e9
  obtain ⟨bb, off, rfl, -, -⟩ := hel 0 (by show 0 < 8; decide)
  have hsl := slice4 bb off k11 hk11
  have hcdd := HCB.out
  have HRD := Lib.hid (WireBig.read_any _ ((bigL 0 4 ++ bigL code 4).drop 4) 4 (by omega) w11 (bytesAt_drop o4 4 (by show 4 ≤ 8; decide)) (fun z hz => bigL_bd code 4 (by omega) hcdd.1 (by rw [most4]; omega) z hz) (by show (4 : Int) ≤ ((4 : Nat) : Int); decide))
  rw [show (bigL 0 4 ++ bigL code 4).drop 4 = bigL code 4 from rfl, num_code code hcdd, most4] at HRD
  have HE11 := Lib.hid (oneE_below HE10.out hB11)
  obtain ⟨g0, g1, g2, -⟩ := HE11.out
  have HC11 := Lib.hid (HC10.out.below hB11)
  have HB11 := Lib.hid (HB10.out.trans (hB11.mono HB10.out.size))
  have HS11 := Lib.hid (HS10.out.below (hB11.mono (Nat.le_of_lt HC10.out.r.lt)))
  clear o4 hel hB11 hk11 hl8 hcdd HC10 HB10 HS10 HE10 HFR
  go_wp2_with (first
    | (go_at_call 19; refine (over_any HC11.out H10.out.1).mono ?_; rintro e w12 ⟨rfl, rfl⟩)
    | fail)
  refine HRD.out.mono ?_
  rintro e w12 ⟨rfl, ⟨hq, rfl⟩ | ⟨hq, rfl⟩⟩
  case inr => exact absurd hq (by have := HCB.out; omega)
  have hM11 := HS11.out.2.1
  have HUS := Lib.hid (used_over HC11.out H10.out.1 m H10.out.2 [] hM11 rfl 0)
  clear hM11 hsl o0 o1 o2 o3 g0 g1 g2 HRD HS11 HE11 HS8 HSX
  go_wp2_with (first
    | (go_at_call 12; refine (feed_over HC11.out H10.out.1 _).mono ?_; rintro e z0 ⟨rfl, rfl⟩)
    | (go_at_call 21; refine (answer_over HC11.out H10.out.1 1 _ true).mono ?_; rintro e z1 ⟨rfl, rfl⟩)
    | (go_at_call 22; refine (send_over HC11.out H10.out.1 1 _ true).mono ?_; rintro e z2 ⟨rfl, rfl⟩)
    | (go_at_call 27; refine (stop_over HC11.out H10.out.1 1 0).mono ?_; rintro e z3 ⟨rfl, rfl⟩)
    | (go_at_call 23; refine (bye_over HC11.out H10.out.1 0).mono ?_; rintro e z4 ⟨rfl, rfl⟩)
    | (go_at_call 15; refine HUS.out.mono ?_; rintro e z5 ⟨rfl, rfl⟩)
    | (go_at_call 16; refine (error_any (.err 6) 6 w11 (((HB11.out).cell (p := ⟨0, 0, none⟩) HG.out.2).trans HG.out.1)).mono ?_; rintro e y1 ⟨rfl, hBy1⟩; have HBY1 := Lib.hid ((HB11.out).trans (hBy1.mono (HB11.out).size)); have HCY1 := Lib.hid (HC11.out.below hBy1); clear hBy1)
    | (go_at_call 16; refine (error_any (.err 6) 6 y1 (((HBY1.out).cell (p := ⟨0, 0, none⟩) HG.out.2).trans HG.out.1)).mono ?_; rintro e y2 ⟨rfl, hBy2⟩; have HBY2 := Lib.hid ((HBY1.out).trans (hBy2.mono (HBY1.out).size)); have HCY2 := Lib.hid (HCY1.out.below hBy2); clear hBy2)
    | (go_at_call 16; refine (error_any (.err 6) 6 y2 (((HBY2.out).cell (p := ⟨0, 0, none⟩) HG.out.2).trans HG.out.1)).mono ?_; rintro e y3 ⟨rfl, hBy3⟩; have HBY3 := Lib.hid ((HBY2.out).trans (hBy3.mono (HBY2.out).size)); have HCY3 := Lib.hid (HCY2.out.below hBy3); clear hBy3)
    | (go_at_call 16; refine (error_any (.err 6) 6 y3 (((HBY3.out).cell (p := ⟨0, 0, none⟩) HG.out.2).trans HG.out.1)).mono ?_; rintro e y4 ⟨rfl, hBy4⟩; have HBY4 := Lib.hid ((HBY3.out).trans (hBy4.mono (HBY3.out).size)); have HCY4 := Lib.hid (HCY3.out.below hBy4); clear hBy4)
    | (go_at_call 16; refine (error_any (.err 6) 6 y4 (((HBY4.out).cell (p := ⟨0, 0, none⟩) HG.out.2).trans HG.out.1)).mono ?_; rintro e y5 ⟨rfl, hBy5⟩; have HBY5 := Lib.hid ((HBY4.out).trans (hBy5.mono (HBY4.out).size)); have HCY5 := Lib.hid (HCY4.out.below hBy5); clear hBy5)
    | (go_at_call 13; refine (out_any HCY5.out).mono ?_; rintro e y6 ⟨ay, ny, cy, rfl, hny, -, -, -, hwy⟩; simp only [List.length_nil] at hny; subst hny; have HBY6 : Hid (Below w.heap.size w y6) := (by rw [hwy]; exact HBY5.out.setCell HGG.out _); clear hwy)
    | fail)
  all_goals (go_ret; exact ⟨rfl, HBY6.out⟩)
end Go.Proofs.YtegngpingfjedaaGreatDoor.WalkConnFaults
