/-
  Package line's reader: until, for each class of bytes.
  Conditions: where the bytes lie.
-/
import Derived.Test.YtkohbbnnjakhjaaDoorReadM
namespace Go.Proofs.YtkohbbnnjakhjaaDoor.ReadC
open Go.RowKit BA ChunkD ModL LineC
set_option linter.unusedVariables false
set_option linter.unusedSimpArgs false

theorem u8_small (z : Int) (h0 : 0 ≤ z) (h1 : z ≤ 255) : ((ReadS.u8 z).toNat : Int) = z := by unfold ReadS.u8; rw [UInt8.toNat_ofNat']; omega
theorem u8_to (z : Int) (h0 : 0 ≤ z) (h1 : z ≤ 255) : z.toNat.toUInt8 = ReadS.u8 z := rfl
theorem idx_set (l : List UInt8) (c : UInt8) : decide (0 ≤ Lib.indexByte l c) = l.contains c := (Lib.contains_iff_indexByte l c).symm
theorem idx_one (st : UInt8) (c : UInt8) : Lib.indexByte [st] c = if c = st then 0 else -1 := by
  by_cases h : c = st
  · subst h; rw [if_pos rfl]; simp [Lib.indexByte]
  · rw [if_neg h]; simp [Lib.indexByte, List.findIdx?_cons, h, Ne.symm h]
theorem token_c (z : Int) (h0 : 0 ≤ z) (h1 : z ≤ 255) (w : World) : Calls Tryd.prog 20 #[.int .u8 z] w fun e w' => e = .returned (.bool (tokB (ReadS.u8 z))) ∧ w = w' := by
  have hI := Lib.hid (Tryd.strings_IndexByte ⟨letters.toArray⟩ z w)
  have hr : tokB (ReadS.u8 z) = decide (0 ≤ Lib.indexByte (⟨letters.toArray⟩ : ByteArray).data.toList z.toNat.toUInt8) := by
    rw [idx_set, ← letters_tok]; rfl
  rw [hr]
  generalize Lib.indexByte (⟨letters.toArray⟩ : ByteArray).data.toList z.toNat.toUInt8 = d at *
  clear hr
  go_enter Tryd.func20, Tryd.ntmps20
  go_wp2_with (go_at_call 40; refine hI.out.mono ?_; rintro e w1 ⟨rfl, rfl⟩)
  go_ret
  exact ⟨rfl, rfl⟩
theorem letter_c (z : Int) (h0 : 0 ≤ z) (h1 : z ≤ 255) (w : World) : Calls Tryd.prog 44 #[.int .u8 z] w fun e w' => e = .returned (.bool (smallB (ReadS.u8 z))) ∧ w = w' := by
  have hI := Lib.hid (Tryd.strings_IndexByte ⟨smalls.toArray⟩ z w)
  have hr : smallB (ReadS.u8 z) = decide (0 ≤ Lib.indexByte (⟨smalls.toArray⟩ : ByteArray).data.toList z.toNat.toUInt8) := by
    rw [idx_set, ← smalls_small]; rfl
  rw [hr]
  generalize Lib.indexByte (⟨smalls.toArray⟩ : ByteArray).data.toList z.toNat.toUInt8 = d at *
  clear hr
  go_enter Tryd.func44, Tryd.ntmps44
  go_wp2_with (go_at_call 40; refine hI.out.mono ?_; rintro e w1 ⟨rfl, rfl⟩)
  go_ret
  exact ⟨rfl, rfl⟩
theorem visible_c (z : Int) (h0 : 0 ≤ z) (h1 : z ≤ 255) (w : World) : Calls Tryd.prog 23 #[.int .u8 z] w fun e w' => e = .returned (.bool (ReadS.visB (ReadS.u8 z))) ∧ w = w' := by
  have hu := u8_small z h0 h1
  have hr : ReadS.visB (ReadS.u8 z) = (decide ((32 : Int) < z) && decide (z ≤ 126)) := by
    unfold ReadS.visB
    rw [Bool.eq_iff_iff]; simp only [Bool.and_eq_true, decide_eq_true_eq]; omega
  rw [hr]
  clear hu hr
  by_cases q1 : (32 : Int) < z
  · by_cases q2 : z ≤ 126
    · go_enter Tryd.func23, Tryd.ntmps23
      go_wp2
      go_ret
      exact ⟨by simp [q1, q2], rfl⟩
    · have q2' : 126 < z := by omega
      go_enter Tryd.func23, Tryd.ntmps23
      go_wp2
      go_ret
      exact ⟨by simp [q1, q2], rfl⟩
  · have q1' : z ≤ 32 := by omega
    go_enter Tryd.func23, Tryd.ntmps23
    go_wp2
    go_ret
    exact ⟨by simp [q1]; omega, rfl⟩
theorem plainc_c (z : Int) (h0 : 0 ≤ z) (h1 : z ≤ 255) (w : World) : Calls Tryd.prog 42 #[.int .u8 z] w fun e w' => e = .returned (.bool (okB (ReadS.u8 z))) ∧ w = w' := by
  have hu := u8_small z h0 h1
  have hr : okB (ReadS.u8 z) = (decide ((32 : Int) ≤ z) && decide (z ≤ 126)) := by
    unfold okB
    rw [Bool.eq_iff_iff]; simp only [Bool.and_eq_true, decide_eq_true_eq]; omega
  rw [hr]
  clear hu hr
  by_cases q1 : (32 : Int) ≤ z
  · by_cases q2 : z ≤ 126
    · go_enter Tryd.func42, Tryd.ntmps42
      go_wp2
      go_ret
      exact ⟨by simp [q1, q2], rfl⟩
    · have q2' : 126 < z := by omega
      go_enter Tryd.func42, Tryd.ntmps42
      go_wp2
      go_ret
      exact ⟨by simp [q1, q2], rfl⟩
  · have q1' : z < 32 := by omega
    go_enter Tryd.func42, Tryd.ntmps42
    go_wp2
    go_ret
    exact ⟨by simp [q1]; omega, rfl⟩
set_option maxRecDepth 100000 in
set_option maxHeartbeats 4000000 in
theorem until_token {w0 w : World} {X : Nat} {v : Value} {b : List Int} {σ : Nat × Nat} (h : RS errN w0 w X v b σ) :
    Calls Tryd.prog 19 #[.pointer (some ⟨X, 0, none⟩), .string ⟨#[32]⟩, .func (.func 20) #[] #[], .int .i64 400] w fun e w' => e = .returned (.string (ReadS.utS b 32 tokB σ).1) ∧ RS errN w0 w' X v b (ReadS.utS b 32 tokB σ).2 ∧ Mod (fun k => k = X) w w' := by
  have H := Lib.hid h
  obtain ⟨c0, ⟨q, q1, q2, q3⟩, c2, f0, f1, f2⟩ := id h.rd
  obtain ⟨p, e⟩ := σ
  simp only at c2 q3
  by_cases h0 : e = 0
  · subst h0
    have hpq : q = p := q3 rfl
    subst hpq
    have hpL : q ≤ b.length := h.ok rfl
    obtain ⟨a0, cap, rfl, hc1, hc2, hnil, _⟩ := h.by0.open
    obtain ⟨a1, c1, e1, _, _, _, hel⟩ := h.bytes.open
    simp only [Value.slice.injEq] at e1
    obtain ⟨rfl, _, rfl⟩ := e1
    have HEL := Lib.hid hel
    have HZ := Lib.hid h.bd
    have hlen := h.len
    have HBY := Lib.hid h.bytes
    obtain ⟨R, hR⟩ : ∃ R, ReadS.ut b 32 tokB q (b.length + 1) q = R := ⟨_, rfl⟩
    have HR : Hid (ReadS.utS b 32 tokB (q, 0) = (if R.2 = 0 then ReadS.txt b q R.1 else ⟨#[]⟩, R)) := by
      show ReadS.utS b 32 tokB (q, 0) = _
      unfold ReadS.utS
      rw [if_pos rfl]
      simp only [hR]
    obtain ⟨U, hU⟩ : ∃ U, ReadS.utS b 32 tokB (q, 0) = U := ⟨_, rfl⟩
    rw [hU] at HR ⊢
    have HU := Lib.hid hU
    have HRR := Lib.hid hR
    obtain ⟨L, hL⟩ : ∃ L, b.length = L := ⟨_, rfl⟩
    rw [hL] at hc1 hpL hlen c0
    have HL := Lib.hid hL
    rw [errN0] at c2
    have HOK : Hid (R.2 = 0 → R.1 ≤ b.length) := by
      have := ReadS.utS_ok (b := b) (stop := 32) (may := tokB) (σ := (q, 0)) h.ok
      rw [HU.out, HR.out] at this
      exact this
    clear h q3 hel hR hnil hL hU
    go_enter Tryd.func19, Tryd.ntmps19
    go_wp2
    go_loop [9] (fun iv => ∃ k f : Nat, iv = .int .i64 k ∧ q ≤ k ∧ k ≤ L ∧ Hid (ReadS.ut b 32 tokB q f k = R ∧ L < k + f)) (fun iv => L - (intOf iv).toNat)
    case atStart => exact ⟨q, b.length + 1, rfl, Nat.le_refl _, hpL, HRR.out, by rw [HL.out]; omega⟩
    case round =>
      obtain ⟨k, f, rfl, hk1, hk2, HK⟩ := hrel
      obtain ⟨f, rfl⟩ : ∃ g, f = g + 1 := ⟨f - 1, by have := HK.out.2; omega⟩
      by_cases hlt : k < L
      · obtain ⟨bb, off, rfl, hbb, hcell⟩ := HEL.out k (by rw [HL.out]; omega)
        have hzz := getD_bd HZ.out k
        obtain ⟨z, hzk⟩ : ∃ z, b.getD k 0 = z := ⟨_, rfl⟩
        rw [hzk] at hcell hzz
        obtain ⟨hz0, hz1⟩ := hzz
        have HZK := Lib.hid hzk
        have HKB : Hid (k < b.length) := by rw [HL.out]; exact hlt
        have hI := fun W => Tryd.strings_IndexByte ⟨#[32]⟩ z W
        have hix : Lib.indexByte (⟨#[32]⟩ : ByteArray).data.toList z.toNat.toUInt8 = if z = 32 then 0 else -1 := by
          have e := idx_one 32 (ReadS.u8 z)
          have hu := u8_small z hz0 hz1
          have hc : (ReadS.u8 z = 32) ↔ z = 32 := ⟨fun h => by rw [h] at hu; exact hu.symm.trans (by decide), fun h => by rw [h]; decide⟩
          by_cases hq : z = 32
          · rw [if_pos hq]; rw [if_pos (hc.2 hq)] at e; exact e
          · rw [if_neg hq]; rw [if_neg (fun h => hq (hc.1 h))] at e; exact e
        rw [hix] at hI
        have HM := Lib.hid (fun W => token_c z hz0 hz1 W)
        clear hzk hix
        by_cases hq : z = 32
        · subst hq
          rw [if_pos rfl] at hI
          have HI := Lib.hid hI
          have hR2 := HK.out.1
          rw [ReadS.ut_end HKB.out HZK.out] at hR2
          have HRk := Lib.hid hR2
          have htx : Hid (∀ n : Nat, (convert 22 9 (.slice (some ⟨bb, off + q, none⟩) (k - q) (cap - q))).run Tryd.prog (w.drewN n) = .ok (.string (ReadS.txt b q k)) (w.drewN n)) := by
            intro n
            have hb1 : BytesAt (w.drewN n) (.slice (some ⟨bb, off, none⟩) L cap) b := by
              have := HBY.out.below (below_drewN (Below.refl _ _) n)
              rw [HL.out] at this
              exact this
            have hb2 := bytesAt_take (bytesAt_drop hb1 q (by rw [HL.out]; omega)) (k - q) (by rw [List.length_drop, HL.out]; omega)
            exact conv_back hb2 (fun y hy => HZ.out y (List.mem_of_mem_drop (List.mem_of_mem_take hy)))
          have ht0 := htx.out 0
          have htn := htx.out
          have i1 : (q : Int) ≤ (k : Int) := by omega
          have i2 : (k : Int) ≤ (cap : Int) := by omega
          have i3 : (0 : Int) ≤ (q : Int) := by omega
          have i4 : ¬ (cap ≤ q) := by omega
          clear hI hR2
          have HUk : Hid (U = (ReadS.txt b q k, (k, 0))) := by show U = _; rw [HR.out, ← HRk.out]; rfl
          have HMV := Lib.hid (fun n => (H.out.rd.drewN n).move (p := k) (by omega) rfl)
          go_wp2_with (go_at_call 40; refine (HI.out _).mono ?_; rintro e w1 ⟨rfl, rfl⟩)
          go_quiet (fail)
          go_wp2
          go_ret
          rw [HUk.out]
          exact ⟨rfl, H.out.step (mod1 _ _ _ _ _) (HMV.out _) (fun _ => by rw [HL.out]; exact hk2), mod1 _ _ _ _ _⟩
        · rw [if_neg hq] at hI
          have HI := Lib.hid hI
          obtain ⟨bv, hbv⟩ : ∃ bv, tokB (ReadS.u8 z) = bv := ⟨_, rfl⟩
          rw [hbv] at HM
          rcases bv with _ | _
          · have hR2 : R = (0, 2) := by rw [← HK.out.1]; exact ReadS.ut_syn HKB.out (by rw [HZK.out]; exact hq) (.inl (by rw [HZK.out]; exact hbv))
            have HUk : Hid (U = (⟨#[]⟩, (0, 2))) := by show U = _; rw [HR.out, hR2]; rfl
            clear hR2 hq hbv hI
            go_wp2_with (first
              | (go_at_call 40; refine (HI.out _).mono ?_; rintro e w1 ⟨rfl, rfl⟩)
              | (go_at_call 20; refine (HM.out _).mono ?_; rintro e w1 ⟨rfl, rfl⟩))
            go_ret
            rw [HUk.out]
            exact ⟨rfl, H.out.step (modX _ _ _ _) (H.out.rd.fault (e := 2) (by decide) 0) (by intro h; cases h), modX _ _ _ _⟩
          · by_cases h4 : 400 ≤ k - q
            · have h4' : (400 : Int) ≤ (k : Int) - (q : Int) := by omega
              have hR2 : R = (0, 2) := by rw [← HK.out.1]; exact ReadS.ut_syn HKB.out (by rw [HZK.out]; exact hq) (.inr h4)
              have HUk : Hid (U = (⟨#[]⟩, (0, 2))) := by show U = _; rw [HR.out, hR2]; rfl
              clear hR2 hq hbv hI h4
              go_wp2_with (first
                | (go_at_call 40; refine (HI.out _).mono ?_; rintro e w1 ⟨rfl, rfl⟩)
                | (go_at_call 20; refine (HM.out _).mono ?_; rintro e w1 ⟨rfl, rfl⟩))
              go_ret
              rw [HUk.out]
              exact ⟨rfl, H.out.step (modX _ _ _ _) (H.out.rd.fault (e := 2) (by decide) 0) (by intro h; cases h), modX _ _ _ _⟩
            · have h4' : (k : Int) - (q : Int) < 400 := by omega
              have HST := Lib.hid (show ReadS.ut b 32 tokB q f (k + 1) = R by rw [← HK.out.1]; exact (ReadS.ut_step HKB.out (by rw [HZK.out]; exact hq) (by rw [HZK.out]; exact hbv) h4).symm)
              clear hq hbv hI h4
              go_wp2_with (first
                | (go_at_call 40; refine (HI.out _).mono ?_; rintro e w1 ⟨rfl, rfl⟩)
                | (go_at_call 20; refine (HM.out _).mono ?_; rintro e w1 ⟨rfl, rfl⟩))
              go_round
              case rel => exact ⟨k + 1, f, by go_num, by omega, by omega, HST.out, by have := HK.out.2; omega⟩
              case measure => simp [intOf]; omega
      · have hR2 : R = (0, 8) := by rw [← HK.out.1]; exact ReadS.ut_short (by rw [HL.out]; omega)
        have HUk : Hid (U = (⟨#[]⟩, (0, 8))) := by show U = _; rw [HR.out, hR2]; rfl
        clear hR2
        go_wp2
        go_ret
        rw [HUk.out]
        exact ⟨rfl, H.out.step (modX _ _ _ _) (H.out.rd.fault (e := 8) (by decide) 0) (by intro h; cases h), modX _ _ _ _⟩
  · rw [errNk h0] at c2
    have E := Lib.hid h0
    clear h0 q3
    go_enter Tryd.func19, Tryd.ntmps19
    go_wp2
    go_ret
    have e : ReadS.utS b 32 tokB (p, e) = (⟨#[]⟩, (p, e)) := if_neg E.out
    rw [e]
    exact ⟨rfl, H.out, Mod.refl _ _⟩
set_option maxRecDepth 100000 in
set_option maxHeartbeats 4000000 in
theorem until_visible {w0 w : World} {X : Nat} {v : Value} {b : List Int} {σ : Nat × Nat} (h : RS errN w0 w X v b σ) :
    Calls Tryd.prog 19 #[.pointer (some ⟨X, 0, none⟩), .string ⟨#[32]⟩, .func (.func 23) #[] #[], .int .i64 400] w fun e w' => e = .returned (.string (ReadS.utS b 32 ReadS.visB σ).1) ∧ RS errN w0 w' X v b (ReadS.utS b 32 ReadS.visB σ).2 ∧ Mod (fun k => k = X) w w' := by
  have H := Lib.hid h
  obtain ⟨c0, ⟨q, q1, q2, q3⟩, c2, f0, f1, f2⟩ := id h.rd
  obtain ⟨p, e⟩ := σ
  simp only at c2 q3
  by_cases h0 : e = 0
  · subst h0
    have hpq : q = p := q3 rfl
    subst hpq
    have hpL : q ≤ b.length := h.ok rfl
    obtain ⟨a0, cap, rfl, hc1, hc2, hnil, _⟩ := h.by0.open
    obtain ⟨a1, c1, e1, _, _, _, hel⟩ := h.bytes.open
    simp only [Value.slice.injEq] at e1
    obtain ⟨rfl, _, rfl⟩ := e1
    have HEL := Lib.hid hel
    have HZ := Lib.hid h.bd
    have hlen := h.len
    have HBY := Lib.hid h.bytes
    obtain ⟨R, hR⟩ : ∃ R, ReadS.ut b 32 ReadS.visB q (b.length + 1) q = R := ⟨_, rfl⟩
    have HR : Hid (ReadS.utS b 32 ReadS.visB (q, 0) = (if R.2 = 0 then ReadS.txt b q R.1 else ⟨#[]⟩, R)) := by
      show ReadS.utS b 32 ReadS.visB (q, 0) = _
      unfold ReadS.utS
      rw [if_pos rfl]
      simp only [hR]
    obtain ⟨U, hU⟩ : ∃ U, ReadS.utS b 32 ReadS.visB (q, 0) = U := ⟨_, rfl⟩
    rw [hU] at HR ⊢
    have HU := Lib.hid hU
    have HRR := Lib.hid hR
    obtain ⟨L, hL⟩ : ∃ L, b.length = L := ⟨_, rfl⟩
    rw [hL] at hc1 hpL hlen c0
    have HL := Lib.hid hL
    rw [errN0] at c2
    have HOK : Hid (R.2 = 0 → R.1 ≤ b.length) := by
      have := ReadS.utS_ok (b := b) (stop := 32) (may := ReadS.visB) (σ := (q, 0)) h.ok
      rw [HU.out, HR.out] at this
      exact this
    clear h q3 hel hR hnil hL hU
    go_enter Tryd.func19, Tryd.ntmps19
    go_wp2
    go_loop [9] (fun iv => ∃ k f : Nat, iv = .int .i64 k ∧ q ≤ k ∧ k ≤ L ∧ Hid (ReadS.ut b 32 ReadS.visB q f k = R ∧ L < k + f)) (fun iv => L - (intOf iv).toNat)
    case atStart => exact ⟨q, b.length + 1, rfl, Nat.le_refl _, hpL, HRR.out, by rw [HL.out]; omega⟩
    case round =>
      obtain ⟨k, f, rfl, hk1, hk2, HK⟩ := hrel
      obtain ⟨f, rfl⟩ : ∃ g, f = g + 1 := ⟨f - 1, by have := HK.out.2; omega⟩
      by_cases hlt : k < L
      · obtain ⟨bb, off, rfl, hbb, hcell⟩ := HEL.out k (by rw [HL.out]; omega)
        have hzz := getD_bd HZ.out k
        obtain ⟨z, hzk⟩ : ∃ z, b.getD k 0 = z := ⟨_, rfl⟩
        rw [hzk] at hcell hzz
        obtain ⟨hz0, hz1⟩ := hzz
        have HZK := Lib.hid hzk
        have HKB : Hid (k < b.length) := by rw [HL.out]; exact hlt
        have hI := fun W => Tryd.strings_IndexByte ⟨#[32]⟩ z W
        have hix : Lib.indexByte (⟨#[32]⟩ : ByteArray).data.toList z.toNat.toUInt8 = if z = 32 then 0 else -1 := by
          have e := idx_one 32 (ReadS.u8 z)
          have hu := u8_small z hz0 hz1
          have hc : (ReadS.u8 z = 32) ↔ z = 32 := ⟨fun h => by rw [h] at hu; exact hu.symm.trans (by decide), fun h => by rw [h]; decide⟩
          by_cases hq : z = 32
          · rw [if_pos hq]; rw [if_pos (hc.2 hq)] at e; exact e
          · rw [if_neg hq]; rw [if_neg (fun h => hq (hc.1 h))] at e; exact e
        rw [hix] at hI
        have HM := Lib.hid (fun W => visible_c z hz0 hz1 W)
        clear hzk hix
        by_cases hq : z = 32
        · subst hq
          rw [if_pos rfl] at hI
          have HI := Lib.hid hI
          have hR2 := HK.out.1
          rw [ReadS.ut_end HKB.out HZK.out] at hR2
          have HRk := Lib.hid hR2
          have htx : Hid (∀ n : Nat, (convert 22 9 (.slice (some ⟨bb, off + q, none⟩) (k - q) (cap - q))).run Tryd.prog (w.drewN n) = .ok (.string (ReadS.txt b q k)) (w.drewN n)) := by
            intro n
            have hb1 : BytesAt (w.drewN n) (.slice (some ⟨bb, off, none⟩) L cap) b := by
              have := HBY.out.below (below_drewN (Below.refl _ _) n)
              rw [HL.out] at this
              exact this
            have hb2 := bytesAt_take (bytesAt_drop hb1 q (by rw [HL.out]; omega)) (k - q) (by rw [List.length_drop, HL.out]; omega)
            exact conv_back hb2 (fun y hy => HZ.out y (List.mem_of_mem_drop (List.mem_of_mem_take hy)))
          have ht0 := htx.out 0
          have htn := htx.out
          have i1 : (q : Int) ≤ (k : Int) := by omega
          have i2 : (k : Int) ≤ (cap : Int) := by omega
          have i3 : (0 : Int) ≤ (q : Int) := by omega
          have i4 : ¬ (cap ≤ q) := by omega
          clear hI hR2
          have HUk : Hid (U = (ReadS.txt b q k, (k, 0))) := by show U = _; rw [HR.out, ← HRk.out]; rfl
          have HMV := Lib.hid (fun n => (H.out.rd.drewN n).move (p := k) (by omega) rfl)
          go_wp2_with (go_at_call 40; refine (HI.out _).mono ?_; rintro e w1 ⟨rfl, rfl⟩)
          go_quiet (fail)
          go_wp2
          go_ret
          rw [HUk.out]
          exact ⟨rfl, H.out.step (mod1 _ _ _ _ _) (HMV.out _) (fun _ => by rw [HL.out]; exact hk2), mod1 _ _ _ _ _⟩
        · rw [if_neg hq] at hI
          have HI := Lib.hid hI
          obtain ⟨bv, hbv⟩ : ∃ bv, ReadS.visB (ReadS.u8 z) = bv := ⟨_, rfl⟩
          rw [hbv] at HM
          rcases bv with _ | _
          · have hR2 : R = (0, 2) := by rw [← HK.out.1]; exact ReadS.ut_syn HKB.out (by rw [HZK.out]; exact hq) (.inl (by rw [HZK.out]; exact hbv))
            have HUk : Hid (U = (⟨#[]⟩, (0, 2))) := by show U = _; rw [HR.out, hR2]; rfl
            clear hR2 hq hbv hI
            go_wp2_with (first
              | (go_at_call 40; refine (HI.out _).mono ?_; rintro e w1 ⟨rfl, rfl⟩)
              | (go_at_call 23; refine (HM.out _).mono ?_; rintro e w1 ⟨rfl, rfl⟩))
            go_ret
            rw [HUk.out]
            exact ⟨rfl, H.out.step (modX _ _ _ _) (H.out.rd.fault (e := 2) (by decide) 0) (by intro h; cases h), modX _ _ _ _⟩
          · by_cases h4 : 400 ≤ k - q
            · have h4' : (400 : Int) ≤ (k : Int) - (q : Int) := by omega
              have hR2 : R = (0, 2) := by rw [← HK.out.1]; exact ReadS.ut_syn HKB.out (by rw [HZK.out]; exact hq) (.inr h4)
              have HUk : Hid (U = (⟨#[]⟩, (0, 2))) := by show U = _; rw [HR.out, hR2]; rfl
              clear hR2 hq hbv hI h4
              go_wp2_with (first
                | (go_at_call 40; refine (HI.out _).mono ?_; rintro e w1 ⟨rfl, rfl⟩)
                | (go_at_call 23; refine (HM.out _).mono ?_; rintro e w1 ⟨rfl, rfl⟩))
              go_ret
              rw [HUk.out]
              exact ⟨rfl, H.out.step (modX _ _ _ _) (H.out.rd.fault (e := 2) (by decide) 0) (by intro h; cases h), modX _ _ _ _⟩
            · have h4' : (k : Int) - (q : Int) < 400 := by omega
              have HST := Lib.hid (show ReadS.ut b 32 ReadS.visB q f (k + 1) = R by rw [← HK.out.1]; exact (ReadS.ut_step HKB.out (by rw [HZK.out]; exact hq) (by rw [HZK.out]; exact hbv) h4).symm)
              clear hq hbv hI h4
              go_wp2_with (first
                | (go_at_call 40; refine (HI.out _).mono ?_; rintro e w1 ⟨rfl, rfl⟩)
                | (go_at_call 23; refine (HM.out _).mono ?_; rintro e w1 ⟨rfl, rfl⟩))
              go_round
              case rel => exact ⟨k + 1, f, by go_num, by omega, by omega, HST.out, by have := HK.out.2; omega⟩
              case measure => simp [intOf]; omega
      · have hR2 : R = (0, 8) := by rw [← HK.out.1]; exact ReadS.ut_short (by rw [HL.out]; omega)
        have HUk : Hid (U = (⟨#[]⟩, (0, 8))) := by show U = _; rw [HR.out, hR2]; rfl
        clear hR2
        go_wp2
        go_ret
        rw [HUk.out]
        exact ⟨rfl, H.out.step (modX _ _ _ _) (H.out.rd.fault (e := 8) (by decide) 0) (by intro h; cases h), modX _ _ _ _⟩
  · rw [errNk h0] at c2
    have E := Lib.hid h0
    clear h0 q3
    go_enter Tryd.func19, Tryd.ntmps19
    go_wp2
    go_ret
    have e : ReadS.utS b 32 ReadS.visB (p, e) = (⟨#[]⟩, (p, e)) := if_neg E.out
    rw [e]
    exact ⟨rfl, H.out, Mod.refl _ _⟩
set_option maxRecDepth 100000 in
set_option maxHeartbeats 4000000 in
theorem until_plain {w0 w : World} {X : Nat} {v : Value} {b : List Int} {σ : Nat × Nat} (h : RS errN w0 w X v b σ) :
    Calls Tryd.prog 19 #[.pointer (some ⟨X, 0, none⟩), .string ⟨#[13]⟩, .func (.func 42) #[] #[], .int .i64 400] w fun e w' => e = .returned (.string (ReadS.utS b 13 okB σ).1) ∧ RS errN w0 w' X v b (ReadS.utS b 13 okB σ).2 ∧ Mod (fun k => k = X) w w' := by
  have H := Lib.hid h
  obtain ⟨c0, ⟨q, q1, q2, q3⟩, c2, f0, f1, f2⟩ := id h.rd
  obtain ⟨p, e⟩ := σ
  simp only at c2 q3
  by_cases h0 : e = 0
  · subst h0
    have hpq : q = p := q3 rfl
    subst hpq
    have hpL : q ≤ b.length := h.ok rfl
    obtain ⟨a0, cap, rfl, hc1, hc2, hnil, _⟩ := h.by0.open
    obtain ⟨a1, c1, e1, _, _, _, hel⟩ := h.bytes.open
    simp only [Value.slice.injEq] at e1
    obtain ⟨rfl, _, rfl⟩ := e1
    have HEL := Lib.hid hel
    have HZ := Lib.hid h.bd
    have hlen := h.len
    have HBY := Lib.hid h.bytes
    obtain ⟨R, hR⟩ : ∃ R, ReadS.ut b 13 okB q (b.length + 1) q = R := ⟨_, rfl⟩
    have HR : Hid (ReadS.utS b 13 okB (q, 0) = (if R.2 = 0 then ReadS.txt b q R.1 else ⟨#[]⟩, R)) := by
      show ReadS.utS b 13 okB (q, 0) = _
      unfold ReadS.utS
      rw [if_pos rfl]
      simp only [hR]
    obtain ⟨U, hU⟩ : ∃ U, ReadS.utS b 13 okB (q, 0) = U := ⟨_, rfl⟩
    rw [hU] at HR ⊢
    have HU := Lib.hid hU
    have HRR := Lib.hid hR
    obtain ⟨L, hL⟩ : ∃ L, b.length = L := ⟨_, rfl⟩
    rw [hL] at hc1 hpL hlen c0
    have HL := Lib.hid hL
    rw [errN0] at c2
    have HOK : Hid (R.2 = 0 → R.1 ≤ b.length) := by
      have := ReadS.utS_ok (b := b) (stop := 13) (may := okB) (σ := (q, 0)) h.ok
      rw [HU.out, HR.out] at this
      exact this
    clear h q3 hel hR hnil hL hU
    go_enter Tryd.func19, Tryd.ntmps19
    go_wp2
    go_loop [9] (fun iv => ∃ k f : Nat, iv = .int .i64 k ∧ q ≤ k ∧ k ≤ L ∧ Hid (ReadS.ut b 13 okB q f k = R ∧ L < k + f)) (fun iv => L - (intOf iv).toNat)
    case atStart => exact ⟨q, b.length + 1, rfl, Nat.le_refl _, hpL, HRR.out, by rw [HL.out]; omega⟩
    case round =>
      obtain ⟨k, f, rfl, hk1, hk2, HK⟩ := hrel
      obtain ⟨f, rfl⟩ : ∃ g, f = g + 1 := ⟨f - 1, by have := HK.out.2; omega⟩
      by_cases hlt : k < L
      · obtain ⟨bb, off, rfl, hbb, hcell⟩ := HEL.out k (by rw [HL.out]; omega)
        have hzz := getD_bd HZ.out k
        obtain ⟨z, hzk⟩ : ∃ z, b.getD k 0 = z := ⟨_, rfl⟩
        rw [hzk] at hcell hzz
        obtain ⟨hz0, hz1⟩ := hzz
        have HZK := Lib.hid hzk
        have HKB : Hid (k < b.length) := by rw [HL.out]; exact hlt
        have hI := fun W => Tryd.strings_IndexByte ⟨#[13]⟩ z W
        have hix : Lib.indexByte (⟨#[13]⟩ : ByteArray).data.toList z.toNat.toUInt8 = if z = 13 then 0 else -1 := by
          have e := idx_one 13 (ReadS.u8 z)
          have hu := u8_small z hz0 hz1
          have hc : (ReadS.u8 z = 13) ↔ z = 13 := ⟨fun h => by rw [h] at hu; exact hu.symm.trans (by decide), fun h => by rw [h]; decide⟩
          by_cases hq : z = 13
          · rw [if_pos hq]; rw [if_pos (hc.2 hq)] at e; exact e
          · rw [if_neg hq]; rw [if_neg (fun h => hq (hc.1 h))] at e; exact e
        rw [hix] at hI
        have HM := Lib.hid (fun W => plainc_c z hz0 hz1 W)
        clear hzk hix
        by_cases hq : z = 13
        · subst hq
          rw [if_pos rfl] at hI
          have HI := Lib.hid hI
          have hR2 := HK.out.1
          rw [ReadS.ut_end HKB.out HZK.out] at hR2
          have HRk := Lib.hid hR2
          have htx : Hid (∀ n : Nat, (convert 22 9 (.slice (some ⟨bb, off + q, none⟩) (k - q) (cap - q))).run Tryd.prog (w.drewN n) = .ok (.string (ReadS.txt b q k)) (w.drewN n)) := by
            intro n
            have hb1 : BytesAt (w.drewN n) (.slice (some ⟨bb, off, none⟩) L cap) b := by
              have := HBY.out.below (below_drewN (Below.refl _ _) n)
              rw [HL.out] at this
              exact this
            have hb2 := bytesAt_take (bytesAt_drop hb1 q (by rw [HL.out]; omega)) (k - q) (by rw [List.length_drop, HL.out]; omega)
            exact conv_back hb2 (fun y hy => HZ.out y (List.mem_of_mem_drop (List.mem_of_mem_take hy)))
          have ht0 := htx.out 0
          have htn := htx.out
          have i1 : (q : Int) ≤ (k : Int) := by omega
          have i2 : (k : Int) ≤ (cap : Int) := by omega
          have i3 : (0 : Int) ≤ (q : Int) := by omega
          have i4 : ¬ (cap ≤ q) := by omega
          clear hI hR2
          have HUk : Hid (U = (ReadS.txt b q k, (k, 0))) := by show U = _; rw [HR.out, ← HRk.out]; rfl
          have HMV := Lib.hid (fun n => (H.out.rd.drewN n).move (p := k) (by omega) rfl)
          go_wp2_with (go_at_call 40; refine (HI.out _).mono ?_; rintro e w1 ⟨rfl, rfl⟩)
          go_quiet (fail)
          go_wp2
          go_ret
          rw [HUk.out]
          exact ⟨rfl, H.out.step (mod1 _ _ _ _ _) (HMV.out _) (fun _ => by rw [HL.out]; exact hk2), mod1 _ _ _ _ _⟩
        · rw [if_neg hq] at hI
          have HI := Lib.hid hI
          obtain ⟨bv, hbv⟩ : ∃ bv, okB (ReadS.u8 z) = bv := ⟨_, rfl⟩
          rw [hbv] at HM
          rcases bv with _ | _
          · have hR2 : R = (0, 2) := by rw [← HK.out.1]; exact ReadS.ut_syn HKB.out (by rw [HZK.out]; exact hq) (.inl (by rw [HZK.out]; exact hbv))
            have HUk : Hid (U = (⟨#[]⟩, (0, 2))) := by show U = _; rw [HR.out, hR2]; rfl
            clear hR2 hq hbv hI
            go_wp2_with (first
              | (go_at_call 40; refine (HI.out _).mono ?_; rintro e w1 ⟨rfl, rfl⟩)
              | (go_at_call 42; refine (HM.out _).mono ?_; rintro e w1 ⟨rfl, rfl⟩))
            go_ret
            rw [HUk.out]
            exact ⟨rfl, H.out.step (modX _ _ _ _) (H.out.rd.fault (e := 2) (by decide) 0) (by intro h; cases h), modX _ _ _ _⟩
          · by_cases h4 : 400 ≤ k - q
            · have h4' : (400 : Int) ≤ (k : Int) - (q : Int) := by omega
              have hR2 : R = (0, 2) := by rw [← HK.out.1]; exact ReadS.ut_syn HKB.out (by rw [HZK.out]; exact hq) (.inr h4)
              have HUk : Hid (U = (⟨#[]⟩, (0, 2))) := by show U = _; rw [HR.out, hR2]; rfl
              clear hR2 hq hbv hI h4
              go_wp2_with (first
                | (go_at_call 40; refine (HI.out _).mono ?_; rintro e w1 ⟨rfl, rfl⟩)
                | (go_at_call 42; refine (HM.out _).mono ?_; rintro e w1 ⟨rfl, rfl⟩))
              go_ret
              rw [HUk.out]
              exact ⟨rfl, H.out.step (modX _ _ _ _) (H.out.rd.fault (e := 2) (by decide) 0) (by intro h; cases h), modX _ _ _ _⟩
            · have h4' : (k : Int) - (q : Int) < 400 := by omega
              have HST := Lib.hid (show ReadS.ut b 13 okB q f (k + 1) = R by rw [← HK.out.1]; exact (ReadS.ut_step HKB.out (by rw [HZK.out]; exact hq) (by rw [HZK.out]; exact hbv) h4).symm)
              clear hq hbv hI h4
              go_wp2_with (first
                | (go_at_call 40; refine (HI.out _).mono ?_; rintro e w1 ⟨rfl, rfl⟩)
                | (go_at_call 42; refine (HM.out _).mono ?_; rintro e w1 ⟨rfl, rfl⟩))
              go_round
              case rel => exact ⟨k + 1, f, by go_num, by omega, by omega, HST.out, by have := HK.out.2; omega⟩
              case measure => simp [intOf]; omega
      · have hR2 : R = (0, 8) := by rw [← HK.out.1]; exact ReadS.ut_short (by rw [HL.out]; omega)
        have HUk : Hid (U = (⟨#[]⟩, (0, 8))) := by show U = _; rw [HR.out, hR2]; rfl
        clear hR2
        go_wp2
        go_ret
        rw [HUk.out]
        exact ⟨rfl, H.out.step (modX _ _ _ _) (H.out.rd.fault (e := 8) (by decide) 0) (by intro h; cases h), modX _ _ _ _⟩
  · rw [errNk h0] at c2
    have E := Lib.hid h0
    clear h0 q3
    go_enter Tryd.func19, Tryd.ntmps19
    go_wp2
    go_ret
    have e : ReadS.utS b 13 okB (p, e) = (⟨#[]⟩, (p, e)) := if_neg E.out
    rw [e]
    exact ⟨rfl, H.out, Mod.refl _ _⟩
set_option maxRecDepth 100000 in
set_option maxHeartbeats 4000000 in
theorem until_letter {w0 w : World} {X : Nat} {v : Value} {b : List Int} {σ : Nat × Nat} (h : RS errN w0 w X v b σ) :
    Calls Tryd.prog 19 #[.pointer (some ⟨X, 0, none⟩), .string ⟨#[58]⟩, .func (.func 44) #[] #[], .int .i64 400] w fun e w' => e = .returned (.string (ReadS.utS b 58 smallB σ).1) ∧ RS errN w0 w' X v b (ReadS.utS b 58 smallB σ).2 ∧ Mod (fun k => k = X) w w' := by
  have H := Lib.hid h
  obtain ⟨c0, ⟨q, q1, q2, q3⟩, c2, f0, f1, f2⟩ := id h.rd
  obtain ⟨p, e⟩ := σ
  simp only at c2 q3
  by_cases h0 : e = 0
  · subst h0
    have hpq : q = p := q3 rfl
    subst hpq
    have hpL : q ≤ b.length := h.ok rfl
    obtain ⟨a0, cap, rfl, hc1, hc2, hnil, _⟩ := h.by0.open
    obtain ⟨a1, c1, e1, _, _, _, hel⟩ := h.bytes.open
    simp only [Value.slice.injEq] at e1
    obtain ⟨rfl, _, rfl⟩ := e1
    have HEL := Lib.hid hel
    have HZ := Lib.hid h.bd
    have hlen := h.len
    have HBY := Lib.hid h.bytes
    obtain ⟨R, hR⟩ : ∃ R, ReadS.ut b 58 smallB q (b.length + 1) q = R := ⟨_, rfl⟩
    have HR : Hid (ReadS.utS b 58 smallB (q, 0) = (if R.2 = 0 then ReadS.txt b q R.1 else ⟨#[]⟩, R)) := by
      show ReadS.utS b 58 smallB (q, 0) = _
      unfold ReadS.utS
      rw [if_pos rfl]
      simp only [hR]
    obtain ⟨U, hU⟩ : ∃ U, ReadS.utS b 58 smallB (q, 0) = U := ⟨_, rfl⟩
    rw [hU] at HR ⊢
    have HU := Lib.hid hU
    have HRR := Lib.hid hR
    obtain ⟨L, hL⟩ : ∃ L, b.length = L := ⟨_, rfl⟩
    rw [hL] at hc1 hpL hlen c0
    have HL := Lib.hid hL
    rw [errN0] at c2
    have HOK : Hid (R.2 = 0 → R.1 ≤ b.length) := by
      have := ReadS.utS_ok (b := b) (stop := 58) (may := smallB) (σ := (q, 0)) h.ok
      rw [HU.out, HR.out] at this
      exact this
    clear h q3 hel hR hnil hL hU
    go_enter Tryd.func19, Tryd.ntmps19
    go_wp2
    go_loop [9] (fun iv => ∃ k f : Nat, iv = .int .i64 k ∧ q ≤ k ∧ k ≤ L ∧ Hid (ReadS.ut b 58 smallB q f k = R ∧ L < k + f)) (fun iv => L - (intOf iv).toNat)
    case atStart => exact ⟨q, b.length + 1, rfl, Nat.le_refl _, hpL, HRR.out, by rw [HL.out]; omega⟩
    case round =>
      obtain ⟨k, f, rfl, hk1, hk2, HK⟩ := hrel
      obtain ⟨f, rfl⟩ : ∃ g, f = g + 1 := ⟨f - 1, by have := HK.out.2; omega⟩
      by_cases hlt : k < L
      · obtain ⟨bb, off, rfl, hbb, hcell⟩ := HEL.out k (by rw [HL.out]; omega)
        have hzz := getD_bd HZ.out k
        obtain ⟨z, hzk⟩ : ∃ z, b.getD k 0 = z := ⟨_, rfl⟩
        rw [hzk] at hcell hzz
        obtain ⟨hz0, hz1⟩ := hzz
        have HZK := Lib.hid hzk
        have HKB : Hid (k < b.length) := by rw [HL.out]; exact hlt
        have hI := fun W => Tryd.strings_IndexByte ⟨#[58]⟩ z W
        have hix : Lib.indexByte (⟨#[58]⟩ : ByteArray).data.toList z.toNat.toUInt8 = if z = 58 then 0 else -1 := by
          have e := idx_one 58 (ReadS.u8 z)
          have hu := u8_small z hz0 hz1
          have hc : (ReadS.u8 z = 58) ↔ z = 58 := ⟨fun h => by rw [h] at hu; exact hu.symm.trans (by decide), fun h => by rw [h]; decide⟩
          by_cases hq : z = 58
          · rw [if_pos hq]; rw [if_pos (hc.2 hq)] at e; exact e
          · rw [if_neg hq]; rw [if_neg (fun h => hq (hc.1 h))] at e; exact e
        rw [hix] at hI
        have HM := Lib.hid (fun W => letter_c z hz0 hz1 W)
        clear hzk hix
        by_cases hq : z = 58
        · subst hq
          rw [if_pos rfl] at hI
          have HI := Lib.hid hI
          have hR2 := HK.out.1
          rw [ReadS.ut_end HKB.out HZK.out] at hR2
          have HRk := Lib.hid hR2
          have htx : Hid (∀ n : Nat, (convert 22 9 (.slice (some ⟨bb, off + q, none⟩) (k - q) (cap - q))).run Tryd.prog (w.drewN n) = .ok (.string (ReadS.txt b q k)) (w.drewN n)) := by
            intro n
            have hb1 : BytesAt (w.drewN n) (.slice (some ⟨bb, off, none⟩) L cap) b := by
              have := HBY.out.below (below_drewN (Below.refl _ _) n)
              rw [HL.out] at this
              exact this
            have hb2 := bytesAt_take (bytesAt_drop hb1 q (by rw [HL.out]; omega)) (k - q) (by rw [List.length_drop, HL.out]; omega)
            exact conv_back hb2 (fun y hy => HZ.out y (List.mem_of_mem_drop (List.mem_of_mem_take hy)))
          have ht0 := htx.out 0
          have htn := htx.out
          have i1 : (q : Int) ≤ (k : Int) := by omega
          have i2 : (k : Int) ≤ (cap : Int) := by omega
          have i3 : (0 : Int) ≤ (q : Int) := by omega
          have i4 : ¬ (cap ≤ q) := by omega
          clear hI hR2
          have HUk : Hid (U = (ReadS.txt b q k, (k, 0))) := by show U = _; rw [HR.out, ← HRk.out]; rfl
          have HMV := Lib.hid (fun n => (H.out.rd.drewN n).move (p := k) (by omega) rfl)
          go_wp2_with (go_at_call 40; refine (HI.out _).mono ?_; rintro e w1 ⟨rfl, rfl⟩)
          go_quiet (fail)
          go_wp2
          go_ret
          rw [HUk.out]
          exact ⟨rfl, H.out.step (mod1 _ _ _ _ _) (HMV.out _) (fun _ => by rw [HL.out]; exact hk2), mod1 _ _ _ _ _⟩
        · rw [if_neg hq] at hI
          have HI := Lib.hid hI
          obtain ⟨bv, hbv⟩ : ∃ bv, smallB (ReadS.u8 z) = bv := ⟨_, rfl⟩
          rw [hbv] at HM
          rcases bv with _ | _
          · have hR2 : R = (0, 2) := by rw [← HK.out.1]; exact ReadS.ut_syn HKB.out (by rw [HZK.out]; exact hq) (.inl (by rw [HZK.out]; exact hbv))
            have HUk : Hid (U = (⟨#[]⟩, (0, 2))) := by show U = _; rw [HR.out, hR2]; rfl
            clear hR2 hq hbv hI
            go_wp2_with (first
              | (go_at_call 40; refine (HI.out _).mono ?_; rintro e w1 ⟨rfl, rfl⟩)
              | (go_at_call 44; refine (HM.out _).mono ?_; rintro e w1 ⟨rfl, rfl⟩))
            go_ret
            rw [HUk.out]
            exact ⟨rfl, H.out.step (modX _ _ _ _) (H.out.rd.fault (e := 2) (by decide) 0) (by intro h; cases h), modX _ _ _ _⟩
          · by_cases h4 : 400 ≤ k - q
            · have h4' : (400 : Int) ≤ (k : Int) - (q : Int) := by omega
              have hR2 : R = (0, 2) := by rw [← HK.out.1]; exact ReadS.ut_syn HKB.out (by rw [HZK.out]; exact hq) (.inr h4)
              have HUk : Hid (U = (⟨#[]⟩, (0, 2))) := by show U = _; rw [HR.out, hR2]; rfl
              clear hR2 hq hbv hI h4
              go_wp2_with (first
                | (go_at_call 40; refine (HI.out _).mono ?_; rintro e w1 ⟨rfl, rfl⟩)
                | (go_at_call 44; refine (HM.out _).mono ?_; rintro e w1 ⟨rfl, rfl⟩))
              go_ret
              rw [HUk.out]
              exact ⟨rfl, H.out.step (modX _ _ _ _) (H.out.rd.fault (e := 2) (by decide) 0) (by intro h; cases h), modX _ _ _ _⟩
            · have h4' : (k : Int) - (q : Int) < 400 := by omega
              have HST := Lib.hid (show ReadS.ut b 58 smallB q f (k + 1) = R by rw [← HK.out.1]; exact (ReadS.ut_step HKB.out (by rw [HZK.out]; exact hq) (by rw [HZK.out]; exact hbv) h4).symm)
              clear hq hbv hI h4
              go_wp2_with (first
                | (go_at_call 40; refine (HI.out _).mono ?_; rintro e w1 ⟨rfl, rfl⟩)
                | (go_at_call 44; refine (HM.out _).mono ?_; rintro e w1 ⟨rfl, rfl⟩))
              go_round
              case rel => exact ⟨k + 1, f, by go_num, by omega, by omega, HST.out, by have := HK.out.2; omega⟩
              case measure => simp [intOf]; omega
      · have hR2 : R = (0, 8) := by rw [← HK.out.1]; exact ReadS.ut_short (by rw [HL.out]; omega)
        have HUk : Hid (U = (⟨#[]⟩, (0, 8))) := by show U = _; rw [HR.out, hR2]; rfl
        clear hR2
        go_wp2
        go_ret
        rw [HUk.out]
        exact ⟨rfl, H.out.step (modX _ _ _ _) (H.out.rd.fault (e := 8) (by decide) 0) (by intro h; cases h), modX _ _ _ _⟩
  · rw [errNk h0] at c2
    have E := Lib.hid h0
    clear h0 q3
    go_enter Tryd.func19, Tryd.ntmps19
    go_wp2
    go_ret
    have e : ReadS.utS b 58 smallB (p, e) = (⟨#[]⟩, (p, e)) := if_neg E.out
    rw [e]
    exact ⟨rfl, H.out, Mod.refl _ _⟩
end Go.Proofs.YtkohbbnnjakhjaaDoor.ReadC
