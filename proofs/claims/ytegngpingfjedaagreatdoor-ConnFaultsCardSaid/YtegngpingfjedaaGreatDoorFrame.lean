/-
  Contracts of frame.octet, frame.Encode, frame.Read, tollsame.Frame over this seat's translation.
  Conditions: a frame's body reads as bytes.
-/
import Derived.Test.YtegngpingfjedaaGreatDoorWireBig
import Derived.Test.YtegngpingfjedaaGreatDoorSlicesB
import Derived.Deep.RegionHeld3
import Derived.IntWalk
namespace Go.Proofs.YtegngpingfjedaaGreatDoor.FrameC
open Go.RowKit BA WireBig SlicesB
set_option linter.unusedSimpArgs false
set_option linter.unusedVariables false

theorem octet_any (n : Int) (b : Bool) (hb : b = decide (0 ≤ n ∧ n ≤ 255)) (w : World) :
    Calls Tryz.prog 43 #[.int .i64 n] w fun e w' => e = .returned (.bool b) ∧ w = w' := by
  subst hb
  by_cases h1 : 0 ≤ n
  · by_cases h2 : n ≤ 255
    all_goals
      go_enter Tryz.func43, Tryz.ntmps43
      go_wp2
      go_ret
      exact ⟨by simp [h1, h2], rfl⟩
  · go_enter Tryz.func43, Tryz.ntmps43
    go_wp2
    go_ret
    exact ⟨by simp; omega, rfl⟩
/-- A frame, plainly. -/
structure Fr where
  kind : Int
  flags : Int
  stream : Int
  body : List Int
def Fr.val (f : Fr) (vb : Value) : Value := .agg #[.int .i64 f.kind, .int .i64 f.flags, .int .i64 f.stream, vb]
def Fr.bytes (f : Fr) : List Int := bigL f.body.length 3 ++ ([f.kind, f.flags] ++ (bigL f.stream 4 ++ f.body))
def Fr.inRange (f : Fr) : Prop := (0 ≤ f.kind ∧ f.kind ≤ 255) ∧ (0 ≤ f.flags ∧ f.flags ≤ 255) ∧ 0 ≤ f.stream ∧ f.stream ≤ 2147483647
instance (f : Fr) : Decidable f.inRange := inferInstanceAs (Decidable (_ ∧ _))
theorem most4 : most 4 = 2147483647 := rfl
theorem most3 : most 3 = 16777215 := rfl
theorem sum4 (a b c d : List Int) : sumLen [a, b, c, d] = a.length + (b.length + (c.length + d.length)) := by simp [sumLen]
theorem rows4 {w : World} {v0 v2 v3 : Value} {k fl : Int} {t b : TypeId} {l0 l2 l3 : List Int} (h0 : BytesAt w v0 l0) (h2 : BytesAt w v2 l2) (h3 : BytesAt w v3 l3) :
    RowsAt ((w.alloc (.cells #[.int .u8 k, .int .u8 fl] b)).alloc (.cells #[v0, .slice (some ⟨w.heap.size, 0, none⟩) 2 2, v2, v3] t)) (.slice (some ⟨w.heap.size + 1, 0, none⟩) 4 4) [v0, .slice (some ⟨w.heap.size, 0, none⟩) 2 2, v2, v3] [l0, [k, fl], l2, l3] := by
  have hB := (Below.refl w.heap.size w).alloc (Nat.le_refl _) (.cells #[.int .u8 k, .int .u8 fl] b)
  have h := RowsAt.new (w.alloc (.cells #[.int .u8 k, .int .u8 fl] b)) #[v0, .slice (some ⟨w.heap.size, 0, none⟩) 2 2, v2, v3] t [l0, [k, fl], l2, l3] rfl (by simp) (fun i hi => by
    rcases i with _ | _ | _ | _ | i
    · exact ⟨_, rfl, h0.below hB⟩
    · refine ⟨_, rfl, some ⟨w.heap.size, 0, none⟩, 2, rfl, by simp [BytesL.valB], by decide, by simp, fun i hi => ⟨w.heap.size, 0, rfl, by simp, ?_⟩⟩
      rcases i with _ | _ | i
      · simp [BytesL.valB]
      · simp [BytesL.valB]
      · simp [BytesL.valB] at hi; omega
    · exact ⟨_, rfl, h2.below hB⟩
    · exact ⟨_, rfl, h3.below hB⟩
    · simp at hi; omega)
  simpa using h
set_option maxRecDepth 100000 in
set_option maxHeartbeats 4000000 in
theorem encode_any (f : Fr) (vb : Value) (w : World) (hvb : BytesAt w vb f.body) :
    Calls Tryz.prog 11 #[f.val vb] w fun e w' => Below w.heap.size w w' ∧
      ((¬ f.inRange ∧ e = .returned (.tuple #[.slice none 0 0, .iface 83 (.int .i64 1)])) ∨
       (f.inRange ∧ 1024 < f.body.length ∧ e = .returned (.tuple #[.slice none 0 0, .iface 83 (.int .i64 4)])) ∨
       (f.inRange ∧ f.body.length ≤ 1024 ∧ ∃ v, e = .returned (.tuple #[v, .nilIface]) ∧ BytesL.Own w' w.heap.size v f.bytes)) := by
  obtain ⟨k, fl, st, body⟩ := f
  have HB := Lib.hid (big_any st 4 (by omega))
  rw [most4] at HB
  simp only [Fr.inRange, Fr.val, Fr.bytes] at hvb ⊢
  obtain ⟨kb, hkb⟩ : ∃ b, b = decide (0 ≤ k ∧ k ≤ 255) := ⟨_, rfl⟩
  obtain ⟨fb, hfb⟩ : ∃ b, b = decide (0 ≤ fl ∧ fl ≤ 255) := ⟨_, rfl⟩
  have HK := Lib.hid (octet_any k kb hkb)
  have HF := Lib.hid (octet_any fl fb hfb)
  have HKB := Lib.hid hkb
  have HFB := Lib.hid hfb
  have hB0 := (Below.refl w.heap.size w).alloc (Nat.le_refl _) (.cells #[.int .i64 k, .int .i64 fl, .int .i64 st, vb] 38)
  have HB0 := Lib.hid hB0
  have HVB := Lib.hid (hvb.below hB0)
  obtain ⟨ab, cb, rfl, hcb1, hcb2, _, _⟩ := hvb.open
  have hlen : body.length ≤ 9223372036854775807 := by omega
  clear hkb hfb hB0 hvb
  go_enter Tryz.func11, Tryz.ntmps11
  go_wp2_with fail
  refine (HB.out _).mono ?_
  rintro e w1 (⟨hq, rfl, rfl⟩ | ⟨hq, g1, hg1, rfl, hown, hB, hz⟩)
  · cases kb <;> cases fb
    all_goals
      go_wp2_with (first | (go_at_call 43; (with_reducible refine (HK.out _).mono ?_); rintro e w' ⟨rfl, rfl⟩) | (go_at_call 43; (with_reducible refine (HF.out _).mono ?_); rintro e w' ⟨rfl, rfl⟩))
      go_ret2
      exact ⟨HB0.out, .inl ⟨by omega, rfl⟩⟩
  · have HO := Lib.hid hown
    have HB1 := Lib.hid hB
    have k0 : w1.cell? ⟨w.heap.size, 0, none⟩ = some (.int .i64 k) := (hB.cell (p := ⟨w.heap.size, 0, none⟩) (by simp)).trans (by simp)
    have k1 : w1.cell? ⟨w.heap.size, 1, none⟩ = some (.int .i64 fl) := (hB.cell (p := ⟨w.heap.size, 1, none⟩) (by simp)).trans (by simp)
    have k2 : w1.cell? ⟨w.heap.size, 2, none⟩ = some (.int .i64 st) := (hB.cell (p := ⟨w.heap.size, 2, none⟩) (by simp)).trans (by simp)
    have k3 : w1.cell? ⟨w.heap.size, 3, none⟩ = some (.slice ab body.length cb) := (hB.cell (p := ⟨w.heap.size, 3, none⟩) (by simp)).trans (by simp)
    simp only [World.size_alloc] at hz
    have hsz : w.heap.size < w1.heap.size := by omega
    have HBW : Hid (Below w.heap.size w w1) := HB0.out.trans (hB.mono (by simp))
    clear hown hB hz
    by_cases hkf : kb = true ∧ fb = true
    · obtain ⟨rfl, rfl⟩ := hkf
      have hin : Hid ((0 ≤ k ∧ k ≤ 255) ∧ (0 ≤ fl ∧ fl ≤ 255) ∧ 0 ≤ st ∧ st ≤ 2147483647) := by
        have h1 := HKB.out; have h2 := HFB.out
        exact ⟨of_decide_eq_true h1.symm, of_decide_eq_true h2.symm, hq⟩
      by_cases hfull : 1024 < body.length
      · go_wp2_with (first | (go_at_call 43; (with_reducible refine (HK.out _).mono ?_); rintro e w' ⟨rfl, rfl⟩) | (go_at_call 43; (with_reducible refine (HF.out _).mono ?_); rintro e w' ⟨rfl, rfl⟩))
        go_ret2
        exact ⟨HBW.out, .inr (.inl ⟨hin.out, hfull, rfl⟩)⟩
      · have hle : body.length ≤ 1024 := by omega
        have HB3 := Lib.hid (big_any (body.length : Int) 3 (by omega))
        rw [most3] at HB3
        go_wp2_with (first | (go_at_call 43; (with_reducible refine (HK.out _).mono ?_); rintro e w' ⟨rfl, rfl⟩) | (go_at_call 43; (with_reducible refine (HF.out _).mono ?_); rintro e w' ⟨rfl, rfl⟩) | fail)
        refine (HB3.out _).mono ?_
        rintro e w2 (⟨hq2, rfl, rfl⟩ | ⟨hq2, g2, hg2, rfl, hown2, hB2, hz2⟩)
        · exfalso; omega
        · have hin2 := hin.out
          obtain ⟨⟨i1, i2⟩, ⟨i3, i4⟩, i5, i6⟩ := hin2
          have m3 : w2.cell? ⟨w.heap.size, 3, none⟩ = some (.slice ab body.length cb) := (hB2.cell (p := ⟨w.heap.size, 3, none⟩) hsz).trans k3
          have m0 : w2.cell? ⟨w.heap.size, 0, none⟩ = some (.int .i64 k) := (hB2.cell (p := ⟨w.heap.size, 0, none⟩) hsz).trans k0
          have m1 : w2.cell? ⟨w.heap.size, 1, none⟩ = some (.int .i64 fl) := (hB2.cell (p := ⟨w.heap.size, 1, none⟩) hsz).trans k1
          have hsz2 : w.heap.size < w2.heap.size := by omega
          have HO2 := Lib.hid hown2
          clear hg2
          have HBB := Lib.hid hB2
          clear hown2 hB2 hz2 k0 k1 k2 k3
          go_wp2_with fail
          refine (concat_any _ _ [bigL body.length 3, [k, fl], bigL st 4, body] _ (rows4 (t := 30) (b := 5) (l0 := bigL body.length 3) (l2 := bigL st 4) (l3 := body) (BytesAt.of_own HO2.out) ((BytesAt.of_own HO.out).below HBB.out) ((HVB.out.below HB1.out).below HBB.out)) (by rw [sum4]; rw [bigL_len _ _ (by omega), bigL_len _ _ (by omega)]; simp; omega)).mono ?_
          rintro e w3 ⟨v3, rfl, hown3, hB3⟩
          simp only [World.size_alloc] at hown3 hB3
          have HBZ : Hid (Below w.heap.size w w3) := (((HBW.out.trans (HBB.out.mono (by omega))).alloc (by omega) _).alloc (by simp; omega) _).trans (hB3.mono (by omega))
          have HO3 := Lib.hid hown3
          clear hown3 hB3
          go_wp2
          go_ret2
          exact ⟨HBZ.out, .inr (.inr ⟨hin.out, hle, _, rfl, by have := HO3.out.mono (b' := w.heap.size) (by omega); simpa using this⟩)⟩
    · have hor : kb = false ∨ (kb = true ∧ fb = false) := by cases kb <;> cases fb <;> simp_all
      have hni : Hid (¬ ((0 ≤ k ∧ k ≤ 255) ∧ (0 ≤ fl ∧ fl ≤ 255) ∧ 0 ≤ st ∧ st ≤ 2147483647)) := by
        intro hh
        have h1 := HKB.out; have h2 := HFB.out
        simp only [hh.1, hh.2.1, and_self, decide_true] at h1 h2
        rcases hor with h | ⟨_, h⟩
        · rw [h] at h1; cases h1
        · rw [h] at h2; cases h2
      clear hkf
      rcases hor with rfl | ⟨rfl, rfl⟩
      all_goals
        go_wp2_with (first | (go_at_call 43; (with_reducible refine (HK.out _).mono ?_); rintro e w' ⟨rfl, rfl⟩) | (go_at_call 43; (with_reducible refine (HF.out _).mono ?_); rintro e w' ⟨rfl, rfl⟩))
        go_ret2
        exact ⟨HBW.out, .inl ⟨hni.out, rfl⟩⟩
/-- What is wrong with the frame that bytes begin with; 0: nothing. -/
def rdErr (l : List Int) : Int := if l.length < 9 then 8 else if 1024 < numL (l.take 3) then 4 else if 2147483647 < numL ((l.drop 5).take 4) then 10 else if (l.length : Int) - 9 < numL (l.take 3) then 8 else 0
def rdFr (l : List Int) : Fr := ⟨l.getD 3 0, l.getD 4 0, numL ((l.drop 5).take 4), (l.drop 9).take (numL (l.take 3)).toNat⟩
set_option maxRecDepth 100000 in
set_option maxHeartbeats 4000000 in
theorem read_short (v : Value) (l : List Int) (w : World) (h : BytesAt w v l) (hl : l.length < 9) :
    Calls Tryz.prog 24 #[v] w fun e w' => e = .returned (.tuple #[.agg #[.int .i64 0, .int .i64 0, .int .i64 0, .slice none 0 0], .int .i64 0, .iface 83 (.int .i64 8)]) ∧ Below w.heap.size w w' := by
  obtain ⟨a, cap, rfl, h1, h2, h3, _⟩ := h.open
  clear h
  generalize l.length = n at *
  have HB0 := Lib.hid ((Below.refl w.heap.size w).alloc (Nat.le_refl _) (.cells #[.int .i64 0, .int .i64 0, .int .i64 0, .slice none 0 0] 38))
  go_enter Tryz.func24, Tryz.ntmps24
  go_wp2
  refine bodyPost_ret (v := .tuple #[.agg #[.int .i64 0, .int .i64 0, .int .i64 0, .slice none 0 0], .int .i64 0, .iface 83 (.int .i64 8)]) (by simp [results, Tryz.results24, go_sem]) rfl ⟨rfl, ?_⟩
  exact HB0.out
set_option maxRecDepth 100000 in
set_option maxHeartbeats 8000000 in
theorem read_any (v : Value) (l : List Int) (w : World) (h : BytesAt w v l) (hb : ∀ z ∈ l, 0 ≤ z ∧ z ≤ 255) (hl : l.length ≤ 140737488355327) :
    Calls Tryz.prog 24 #[v] w fun e w' => Below w.heap.size w w' ∧
      ((rdErr l ≠ 0 ∧ e = .returned (.tuple #[.agg #[.int .i64 0, .int .i64 0, .int .i64 0, .slice none 0 0], .int .i64 0, .iface 83 (.int .i64 (rdErr l))])) ∨
       (rdErr l = 0 ∧ ∃ vb, e = .returned (.tuple #[(rdFr l).val vb, .int .i64 (numL (l.take 3) + 9), .nilIface]) ∧ BytesL.Own w' w.heap.size vb (rdFr l).body)) := by
  by_cases h9 : l.length < 9
  · have e8 : rdErr l = 8 := by unfold rdErr; rw [if_pos h9]
    rw [e8]
    exact (read_short v l w h h9).mono fun e w' hh => ⟨hh.2, .inl ⟨by decide, hh.1⟩⟩
  · obtain ⟨a, cap, rfl, h1, h2, h3, hel⟩ := h.open
    obtain ⟨b, off, rfl, hbw, _⟩ := hel 0 (by omega)
    have HEL := Lib.hid hel
    have HB := Lib.hid hb
    have HBA := Lib.hid h
    have hB0 := (Below.refl w.heap.size w).alloc (Nat.le_refl _) (.cells #[.int .i64 0, .int .i64 0, .int .i64 0, .slice none 0 0] 38)
    have HB0 := Lib.hid hB0
    have hr1 := WireBig.read_any _ l 3 (by omega) (w.alloc (.cells #[.int .i64 0, .int .i64 0, .int .i64 0, .slice none 0 0] 38)) (h.below hB0) hb (by omega)
    have hr2 := WireBig.read_any _ (l.drop 5) 4 (by omega) (w.alloc (.cells #[.int .i64 0, .int .i64 0, .int .i64 0, .slice none 0 0] 38)) (bytesAt_drop (h.below hB0) 5 (by omega)) (fun z hz => hb z (List.mem_of_mem_drop hz)) (by simp; omega)
    rw [show (3 : Int).toNat = 3 from rfl, most3] at hr1
    rw [show (4 : Int).toNat = 4 from rfl, most4] at hr2
    have hn0 := numL_take l hb 3 (by omega)
    have hi0 := numL_take (l.drop 5) (fun z hz => hb z (List.mem_of_mem_drop hz)) 4 (by simp; omega)
    rw [show (256 : Int) ^ 3 = 16777216 from rfl] at hn0
    rw [show (256 : Int) ^ 4 = 4294967296 from rfl] at hi0
    have HE : Hid (rdErr l = if 1024 < numL (l.take 3) then 4 else if 2147483647 < numL ((l.drop 5).take 4) then 10 else if (l.length : Int) - 9 < numL (l.take 3) then 8 else 0) := by
      show _ = _; unfold rdErr; rw [if_neg h9]
    have HF : Hid (rdFr l = ⟨l.getD 3 0, l.getD 4 0, numL ((l.drop 5).take 4), (l.drop 9).take (numL (l.take 3)).toNat⟩) := rfl
    have HR1 := Lib.hid hr1
    have HR2 := Lib.hid hr2
    clear hel hb h hr1 hr2
    generalize hnn : numL (l.take 3) = n at *
    generalize hii : numL ((l.drop 5).take 4) = id at *
    generalize rdErr l = er at *
    generalize rdFr l = fr at *
    clear hnn hii
    generalize hlen : l.length = len at *
    have HLEN := Lib.hid hlen
    clear hlen
    go_enter Tryz.func24, Tryz.ntmps24
    go_wp2_with fail
    refine HR1.out.mono ?_
    rintro e w' ⟨rfl, ⟨hq, rfl⟩ | ⟨hq, rfl⟩⟩
    · go_wp2_with fail
      refine HR2.out.mono ?_
      rintro e w' ⟨rfl, ⟨hq2, rfl⟩ | ⟨hq2, rfl⟩⟩
      · by_cases hfull : 1024 < n
        · rw [if_pos hfull] at HE
          go_wp2
          refine bodyPost_ret (v := .tuple #[.agg #[.int .i64 0, .int .i64 0, .int .i64 0, .slice none 0 0], .int .i64 0, .iface 83 (.int .i64 4)]) (by simp [results, Tryz.results24, go_sem]) rfl ⟨HB0.out, .inl ⟨by rw [HE.out]; decide, by rw [HE.out]⟩⟩
        · by_cases hsh : (len : Int) - 9 < n
          · rw [if_neg hfull, if_neg (by omega), if_pos hsh] at HE
            go_wp2
            refine bodyPost_ret (v := .tuple #[.agg #[.int .i64 0, .int .i64 0, .int .i64 0, .slice none 0 0], .int .i64 0, .iface 83 (.int .i64 8)]) (by simp [results, Tryz.results24, go_sem]) rfl ⟨HB0.out, .inl ⟨by rw [HE.out]; decide, by rw [HE.out]⟩⟩
          · rw [if_neg hfull, if_neg (by omega), if_neg hsh] at HE
            obtain ⟨m, rfl⟩ := Int.eq_ofNat_of_zero_le hn0.1
            have s1 : IntKind.i64.wrap (9 + (m : Int)) = 9 + (m : Int) := IntWalk.i64_in _ (by omega)
            have s2 : (0 : Int) ≤ 9 + (m : Int) := by omega
            have s3 : (9 + (m : Int)).toNat = 9 + m := by omega
            have s4 : (3 : Int) < (len : Int) := by omega
            have s5 : (4 : Int) < (len : Int) := by omega
            have s6 : (9 : Int) ≤ 9 + (m : Int) := by omega
            have s7 : 9 + (m : Int) ≤ (cap : Int) := by omega
            have S1 := Lib.hid s1
            have S3 := Lib.hid s3
            clear s1 s3
            rw [Int.toNat_natCast] at HF
            obtain ⟨b3, o3, e3, _, k3⟩ := HEL.out 3 (by omega)
            obtain ⟨b4, o4, e4, _, k4⟩ := HEL.out 4 (by omega)
            simp only [Option.some.injEq, Addr.mk.injEq, and_true] at e3 e4
            obtain ⟨rfl, rfl⟩ := e3
            obtain ⟨rfl, rfl⟩ := e4
            have q3 := getD_bd HB.out 3
            have q4 := getD_bd HB.out 4
            have j3 := (hB0.cell (p := ⟨b, off + 3, none⟩) hbw).trans k3
            have j4 := (hB0.cell (p := ⟨b, off + 4, none⟩) hbw).trans k4
            obtain ⟨q31, q32⟩ := q3
            obtain ⟨q41, q42⟩ := q4
            have HBD := Lib.hid (bytesAt_take (bytesAt_drop (HBA.out.below hB0) 9 (by rw [HLEN.out]; omega)) m (by rw [List.length_drop, HLEN.out]; omega))
            have HCL : Hid (∀ (vv : Value) (W : World), BytesAt W vv ((l.drop 9).take m) → Calls Tryz.prog 45 #[vv] W fun e w' => ∃ (a' : Option Addr) (n' c' : Nat), e = .returned (.slice a' n' c') ∧ BytesL.Own w' W.heap.size (.slice a' n' c') ((l.drop 9).take m) ∧ Below W.heap.size W w') := fun vv W hv => (clone_any vv _ W hv (by simp; omega)).mono fun e w' hh => by
              obtain ⟨v', h1, h2, h3⟩ := hh
              obtain ⟨a', c', rfl, _⟩ := h2.slice
              exact ⟨_, _, _, h1, h2, h3⟩
            have HFR : Hid (fr = ⟨l.getD 3 0, l.getD 4 0, id, (l.drop 9).take m⟩) := HF.out
            clear k3 k4 hB0 HF
            generalize l.getD 3 0 = c3 at *
            generalize l.getD 4 0 = c4 at *
            generalize (l.drop 9).take m = bd at *
            have e3 : IntKind.i64.wrap c3 = c3 := IntWalk.i64_in _ (by omega)
            have e4 : IntKind.i64.wrap c4 = c4 := IntWalk.i64_in _ (by omega)
            by_cases hcap : cap = 9
            · subst hcap
              have hm0 : m = 0 := by omega
              have HBD0 : Hid (BytesAt (w.alloc (.cells #[.int .i64 0, .int .i64 0, .int .i64 0, .slice none 0 0] 38)) (.slice (some ⟨b, off, none⟩) 0 0) bd) := by
                have h := HBD.out
                obtain ⟨a0, c0, e0, _⟩ := h.open
                simp only [Value.slice.injEq] at e0
                have hb0 : bd = [] := List.eq_nil_of_length_eq_zero (by rw [← e0.2.1]; exact hm0)
                subst hb0
                subst hm0
                exact ⟨_, 0, rfl, by simp [BytesL.valB], by omega, by simp, by simp [BytesL.valB]⟩
              go_wp2_with fail
              have s1 := S1.out
              have s3 := S3.out
              have w9 : IntKind.i64.wrap 9 = 9 := by decide
              go_region_held3 (fun w' => w'.cell? ⟨b, off + 3, none⟩ = some (.int .u8 c3) ∧ w'.cell? ⟨b, off + 4, none⟩ = some (.int .u8 c4)) (first | go_keep | exact ⟨r3, r4⟩ | (refine ⟨?_, ?_⟩ <;> (rw [World.cell?_setCell_other _ _ _ _ (by simp <;> omega), World.cell?_setCell_other _ _ _ _ (by simp <;> omega), World.cell?_setCell_other _ _ _ _ (by simp <;> omega), World.cell?_setCell_other _ _ _ _ (by simp <;> omega)]; assumption))) (first | (go_at_call 45; refine (HCL.out _ _ (by exact HBD0.out)).mono ?_; rintro e w2 ⟨a', n', c', rfl, hown, hB2⟩; have r3 := (hB2.cell (p := ⟨b, off + 3, none⟩) (by simp only [World.size_alloc, World.size_drew]; omega)).trans j3; have r4 := (hB2.cell (p := ⟨b, off + 4, none⟩) (by simp only [World.size_alloc, World.size_drew]; omega)).trans j4; have d0 := (hB2.frozen (p := ⟨w.heap.size, 0, none⟩) (by simp)); have d1 := (hB2.frozen (p := ⟨w.heap.size, 1, none⟩) (by simp)); have d2 := (hB2.frozen (p := ⟨w.heap.size, 2, none⟩) (by simp)); have d3 := (hB2.frozen (p := ⟨w.heap.size, 3, none⟩) (by simp)); have z0 := (hB2.cell (p := ⟨w.heap.size, 0, none⟩) (by simp)); have z1 := (hB2.cell (p := ⟨w.heap.size, 1, none⟩) (by simp)); have z2 := (hB2.cell (p := ⟨w.heap.size, 2, none⟩) (by simp)); have z3 := (hB2.cell (p := ⟨w.heap.size, 3, none⟩) (by simp)); have HO5 := Lib.hid (And.intro hown hB2); clear hown hB2))
              go_wp2
              have hbb : Below w.heap.size w w2 := by
                refine HB0.out.drew.trans (Below.mono HO5.out.2 ?_)
                simp
              have hoo : BytesL.Own w2 (w.heap.size + 1) (.slice a' n' c') bd := by simpa using HO5.out.1
              refine bodyPost_ret (v := .tuple #[.agg #[.int .i64 c3, .int .i64 c4, .int .i64 id, .slice a' n' c'], .int .i64 (9 + (m : Int)), .nilIface]) (by simp [results, Tryz.results24, go_sem, z0, z1, z2, z3, hm0]) rfl ⟨?_, .inr ⟨HE.out, .slice a' n' c', ?_, ?_⟩⟩
              · exact ((((hbb.setCell (Nat.le_refl _) _).setCell (Nat.le_refl _) _).setCell (Nat.le_refl _) _).setCell (Nat.le_refl _) _)
              · rw [HFR.out, Int.add_comm]; rfl
              · rw [HFR.out]; exact (((((hoo.setLow _ (by simp) _).setLow _ (by simp) _).setLow _ (by simp) _).setLow _ (by simp) _).mono (by omega))
            · go_wp2_with fail
              have s1 := S1.out
              have s3 := S3.out
              go_region_held3 (fun w' => w'.cell? ⟨b, off + 3, none⟩ = some (.int .u8 c3) ∧ w'.cell? ⟨b, off + 4, none⟩ = some (.int .u8 c4)) (first | go_keep | exact ⟨r3, r4⟩ | (refine ⟨?_, ?_⟩ <;> (rw [World.cell?_setCell_other _ _ _ _ (by simp <;> omega), World.cell?_setCell_other _ _ _ _ (by simp <;> omega), World.cell?_setCell_other _ _ _ _ (by simp <;> omega), World.cell?_setCell_other _ _ _ _ (by simp <;> omega)]; assumption))) (first | (go_at_call 45; refine (HCL.out _ _ (by exact HBD.out)).mono ?_; rintro e w2 ⟨a', n', c', rfl, hown, hB2⟩; have r3 := (hB2.cell (p := ⟨b, off + 3, none⟩) (by simp only [World.size_alloc, World.size_drew]; omega)).trans j3; have r4 := (hB2.cell (p := ⟨b, off + 4, none⟩) (by simp only [World.size_alloc, World.size_drew]; omega)).trans j4; have d0 := (hB2.frozen (p := ⟨w.heap.size, 0, none⟩) (by simp)); have d1 := (hB2.frozen (p := ⟨w.heap.size, 1, none⟩) (by simp)); have d2 := (hB2.frozen (p := ⟨w.heap.size, 2, none⟩) (by simp)); have d3 := (hB2.frozen (p := ⟨w.heap.size, 3, none⟩) (by simp)); have z0 := (hB2.cell (p := ⟨w.heap.size, 0, none⟩) (by simp)); have z1 := (hB2.cell (p := ⟨w.heap.size, 1, none⟩) (by simp)); have z2 := (hB2.cell (p := ⟨w.heap.size, 2, none⟩) (by simp)); have z3 := (hB2.cell (p := ⟨w.heap.size, 3, none⟩) (by simp)); have HO5 := Lib.hid (And.intro hown hB2); clear hown hB2))
              go_wp2
              have hbb : Below w.heap.size w w2 := by
                refine HB0.out.drew.trans (Below.mono HO5.out.2 ?_)
                simp
              have hoo : BytesL.Own w2 (w.heap.size + 1) (.slice a' n' c') bd := by simpa using HO5.out.1
              refine bodyPost_ret (v := .tuple #[.agg #[.int .i64 c3, .int .i64 c4, .int .i64 id, .slice a' n' c'], .int .i64 (9 + (m : Int)), .nilIface]) (by simp [results, Tryz.results24, go_sem, z0, z1, z2, z3]) rfl ⟨?_, .inr ⟨HE.out, .slice a' n' c', ?_, ?_⟩⟩
              · exact ((((hbb.setCell (Nat.le_refl _) _).setCell (Nat.le_refl _) _).setCell (Nat.le_refl _) _).setCell (Nat.le_refl _) _)
              · rw [HFR.out, Int.add_comm]; rfl
              · rw [HFR.out]; exact (((((hoo.setLow _ (by simp) _).setLow _ (by simp) _).setLow _ (by simp) _).setLow _ (by simp) _).mono (by omega))
      · by_cases hfull : 1024 < n
        · rw [if_pos hfull] at HE
          go_wp2
          refine bodyPost_ret (v := .tuple #[.agg #[.int .i64 0, .int .i64 0, .int .i64 0, .slice none 0 0], .int .i64 0, .iface 83 (.int .i64 4)]) (by simp [results, Tryz.results24, go_sem]) rfl ⟨HB0.out, .inl ⟨by rw [HE.out]; decide, by rw [HE.out]⟩⟩
        · rw [if_neg hfull, if_pos hq2] at HE
          go_wp2
          refine bodyPost_ret (v := .tuple #[.agg #[.int .i64 0, .int .i64 0, .int .i64 0, .slice none 0 0], .int .i64 0, .iface 83 (.int .i64 10)]) (by simp [results, Tryz.results24, go_sem]) rfl ⟨HB0.out, .inl ⟨by rw [HE.out]; decide, by rw [HE.out]⟩⟩
    · exfalso; omega
end Go.Proofs.YtegngpingfjedaaGreatDoor.FrameC
