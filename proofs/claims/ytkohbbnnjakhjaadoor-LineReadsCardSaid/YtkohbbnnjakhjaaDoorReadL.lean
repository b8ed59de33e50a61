/-
  The reference's reader: match, Match, and Until for each class of bytes.
  Conditions: where the bytes lie.
-/
import Derived.Test.YtkohbbnnjakhjaaDoorReadM
import Derived.Test.YtkohbbnnjakhjaaDoorTokRef
namespace Go.Proofs.YtkohbbnnjakhjaaDoor.ReadL
open Go.RowKit BA ChunkD ModL LineC ReadC
set_option linter.unusedVariables false
set_option linter.unusedSimpArgs false

def bad (e : Nat) : Value := .int .i64 e
set_option maxRecDepth 100000 in
set_option maxHeartbeats 2000000 in
theorem rmatch_any (s : ByteArray) (a : Option Addr) (cap p : Nat) (b : List Int) (w : World) (hb : BytesAt w (.slice a b.length cap) b) (hp : p ≤ 140737588355328) (hs : s.size ≤ 1000) :
    Calls Tryd.prog 37 #[.slice a b.length cap, .int .i64 p, .string s] w fun e w' => e = .returned (.tuple #[.int .i64 (mt b (sB s) p).1, .int .i64 (mt b (sB s) p).2]) ∧ ∃ n, w' = w.drewN n := by
  obtain ⟨a0, c0, e0, hc1, hc2, hnil, hel⟩ := hb.open
  simp only [Value.slice.injEq] at e0
  obtain ⟨rfl, _, rfl⟩ := e0
  obtain ⟨R, hR⟩ : ∃ R, mt b (sB s) p = R := ⟨_, rfl⟩
  rw [hR]
  have HR := Lib.hid hR
  have HEL := Lib.hid hel
  obtain ⟨L, hL⟩ : ∃ L, b.length = L := ⟨_, rfl⟩
  rw [hL] at hc1 ⊢
  have HL := Lib.hid hL
  clear hR hb hL hel hnil
  obtain ⟨S, hS⟩ : ∃ S, s.size = S := ⟨_, rfl⟩
  have HS := Lib.hid hS
  have hss : s.size = S := hS
  rw [hS] at hs
  go_enter Tryd.func37, Tryd.ntmps37
  go_wp2
  go_loopw [8] (fun iv wr => ∃ k : Nat, iv = .int .i64 k ∧ k ≤ S ∧ Hid ((∃ n, wr = w.drewN n) ∧ mt b ((sB s).drop k) (p + k) = R)) (fun iv _ => S - (intOf iv).toNat)
  case atStart => exact ⟨0, rfl, Nat.zero_le _, ⟨0, rfl⟩, HR.out⟩
  case round =>
    obtain ⟨k, rfl, hk, HK⟩ := hrel
    by_cases hlt : k < S
    · have hix := fun W => sidx s k (by rw [HS.out]; exact hlt) W
      have h := HK.out.2
      rw [sB_drop s k (by rw [HS.out]; exact hlt)] at h
      generalize s[k]'(by rw [HS.out]; exact hlt) = c at *
      by_cases h1 : L ≤ p + k
      · rw [mt_short (by rw [HL.out]; exact h1)] at h
        have HH := Lib.hid h
        have h1' : ((L : Nat) : Int) ≤ (p : Int) + (k : Int) := by omega
        clear h h1
        go_wp2
        go_ret2
        exact ⟨by rw [← HH.out]; rfl, HK.out.1⟩
      · obtain ⟨bb, off, rfl, hbb, hcell⟩ := HEL.out (p + k) (by rw [HL.out]; omega)
        obtain ⟨z, hzk⟩ : ∃ z, b.getD (p + k) 0 = z := ⟨_, rfl⟩
        rw [hzk] at hcell
        have h1' : (p : Int) + (k : Int) < (L : Int) := by omega
        have h2' : (0 : Int) ≤ (p : Int) + (k : Int) := by omega
        have hw : IntKind.i64.wrap ((p : Int) + (k : Int)) = (p : Int) + (k : Int) := IntWalk.i64_in _ (by omega)
        have hnat : ((p : Int) + (k : Int)).toNat = p + k := by omega
        obtain ⟨n, hn⟩ := HK.out.1
        subst hn
        have hi0 : (0 : Int) ≤ (k : Int) := by omega
        have hi1 : (k : Int) < (S : Int) := by omega
        by_cases h3 : z = (c.toNat : Int)
        · rw [mt_step (by rw [HL.out]; omega) (by rw [hzk]; exact h3)] at h
          have HH := Lib.hid h
          have hq : (z != (c.toNat : Int)) = false := by rw [h3]; simp
          clear h h1 hzk h3 HK
          go_wp2
          go_quiet (fail)
          go_wp2
          go_roundw
          case rel => exact ⟨k + 1, by go_num, by omega, ⟨_, by first | rfl | exact World.drewN_drewN _ _ _⟩, by rw [← Nat.add_assoc]; exact HH.out⟩
          case measure => simp [intOf]; omega
        · rw [mt_bad (by rw [HL.out]; omega) (by rw [hzk]; exact h3)] at h
          have HH := Lib.hid h
          have hq : (z != (c.toNat : Int)) = true := by simpa using h3
          clear h h1 hzk h3 HK
          go_wp2
          go_quiet (fail)
          go_wp2
          go_ret2
          exact ⟨by rw [← HH.out]; rfl, _, World.drewN_drewN _ _ _⟩
    · obtain rfl : k = S := by omega
      have h := HK.out.2
      rw [List.drop_of_length_le (by rw [sB_len, HS.out]; omega)] at h
      have HH := Lib.hid h
      clear h
      go_wp2
      go_ret2
      exact ⟨by rw [← HH.out]; rfl, HK.out.1⟩
set_option maxRecDepth 100000 in
set_option maxHeartbeats 2000000 in
theorem lmatch_any {w0 w : World} {X : Nat} {v : Value} {b : List Int} {σ : Nat × Nat} (h : RS bad w0 w X v b σ) (s : ByteArray) (hs : s.size ≤ 1000) :
    Calls Tryd.prog 14 #[.pointer (some ⟨X, 0, none⟩), .string s] w fun e w' => e = .returned (.tuple #[]) ∧ RS bad w0 w' X v b (ReadS.mtS b (sB s) σ) ∧ Mod (fun k => k = X) w w' := by
  have H := Lib.hid h
  obtain ⟨c0, ⟨q, q1, q2, q3⟩, c2, f0, f1, f2⟩ := id h.rd
  obtain ⟨p, e⟩ := σ
  simp only at c2 q3
  unfold bad at c2
  by_cases h0 : e = 0
  · subst h0
    have hpq : q = p := q3 rfl
    subst hpq
    obtain ⟨a, cap, rfl, _, _, _, _⟩ := h.by0.open
    have HM := Lib.hid (fun W (hW : BytesAt W (.slice a b.length cap) b) => rmatch_any s a cap q b W hW q1 hs)
    have HB := Lib.hid (fun n => h.bytes.below (below_drewN (Below.refl _ _) n))
    have HB0 := Lib.hid h.bytes
    have HR : Hid (ReadS.mtS b (sB s) (q, 0) = mt b (sB s) q) := if_pos rfl
    have HOK : Hid ((mt b (sB s) q).2 = 0 → (mt b (sB s) q).1 ≤ b.length) := by
      have := ReadS.mtS_ok (b := b) (s := sB s) (σ := (q, 0)) h.ok
      rw [HR.out] at this
      exact this
    have HL := Lib.hid h.len
    have HML : Hid ((mt b (sB s) q).1 ≤ 140737588355328) := by
      show (mt b (sB s) q).1 ≤ 140737588355328
      by_cases hh : (mt b (sB s) q).2 = 0
      · have := HOK.out hh; have := HL.out; omega
      · rw [mt_zero _ _ hh]; omega
    rw [HR.out]
    generalize mt b (sB s) q = r at *
    obtain ⟨m, e1⟩ := r
    obtain ⟨L, hL⟩ : ∃ L, b.length = L := ⟨_, rfl⟩
    rw [hL] at c0 HM HB HB0
    clear h q3 hL
    have HQ := Lib.hid q1
    clear q1
    by_cases h1 : e1 = 0
    · subst h1
      have HF := Lib.hid (fun n => (H.out.rd.drewN n).both (p := m) (e := 0) HML.out)
      go_enter Tryd.func14, Tryd.ntmps14
      go_wp2
      go_quiet ((go_at_call 37; exact Calls.quiet_of (HM.out _ (HB.out _))))
      go_wp2
      go_end0
      exact ⟨rfl, H.out.step (mod2 _ _ _ _ _ _ _) (HF.out _).2 (fun _ => HOK.out trivial), mod2 _ _ _ _ _ _ _⟩
    · have hx : ((e1 : Int) == 0) = false := beq_eq_false_iff_ne.2 (by omega)
      have HF := Lib.hid (fun n => (H.out.rd.drewN n).fault (e := e1) h1 m)
      have H1 := Lib.hid h1
      clear h1
      go_enter Tryd.func14, Tryd.ntmps14
      go_wp2
      go_quiet ((go_at_call 37; exact Calls.quiet_of (HM.out _ (HB.out _))))
      go_wp2
      go_end0
      exact ⟨rfl, H.out.step (mod1 _ _ _ _ _) (HF.out _) (fun h => absurd h H1.out), mod1 _ _ _ _ _⟩
  · have hx : ((e : Int) == 0) = false := beq_eq_false_iff_ne.2 (by omega)
    have E := Lib.hid h0
    clear h0 q3
    go_enter Tryd.func14, Tryd.ntmps14
    go_wp2
    go_end0
    exact ⟨rfl, by rw [show ReadS.mtS b (sB s) (p, e) = (p, e) from if_neg E.out]; exact H.out, Mod.refl _ _⟩

set_option maxRecDepth 100000 in
set_option maxHeartbeats 8000000 in
theorem luntil_token {w0 w : World} {X : Nat} {v : Value} {b : List Int} {σ : Nat × Nat} (h : RS bad w0 w X v b σ) :
    Calls Tryd.prog 13 #[.pointer (some ⟨X, 0, none⟩), .int .u8 32, .int .i64 0] w fun e w' => e = .returned (.string (ReadS.utS b 32 tokB σ).1) ∧ RS bad w0 w' X v b (ReadS.utS b 32 tokB σ).2 ∧ Mod (fun k => k = X) w w' := by
  have H := Lib.hid h
  obtain ⟨c0, ⟨q, q1, q2, q3⟩, c2, f0, f1, f2⟩ := id h.rd
  obtain ⟨p, e⟩ := σ
  simp only at c2 q3
  unfold bad at c2
  by_cases h0 : e = 0
  · subst h0
    have hpq : q = p := q3 rfl
    subst hpq
    have hpL : q ≤ b.length := h.ok rfl
    obtain ⟨a0, cap, rfl, hc1, hc2, hnil, _⟩ := h.by0.open
    obtain ⟨a1, c1, e1, _, _, _, hel⟩ := h.bytes.open
    simp only [Value.slice.injEq] at e1
    obtain ⟨rfl, _, rfl⟩ := e1
    have HEL := Lib.hid hel
    have HZ := Lib.hid h.bd
    have hlen := h.len
    have HBY := Lib.hid h.bytes
    obtain ⟨R, hR⟩ : ∃ R, ReadS.ut b 32 tokB q (b.length + 1) q = R := ⟨_, rfl⟩
    have HR : Hid (ReadS.utS b 32 tokB (q, 0) = (if R.2 = 0 then ReadS.txt b q R.1 else ⟨#[]⟩, R)) := by
      show ReadS.utS b 32 tokB (q, 0) = _
      unfold ReadS.utS
      rw [if_pos rfl]
      simp only [hR]
    obtain ⟨U, hU⟩ : ∃ U, ReadS.utS b 32 tokB (q, 0) = U := ⟨_, rfl⟩
    rw [hU] at HR ⊢
    have HRR := Lib.hid hR
    obtain ⟨L, hL⟩ : ∃ L, b.length = L := ⟨_, rfl⟩
    rw [hL] at hc1 hpL hlen c0
    have HL := Lib.hid hL
    clear h q3 hel hR hnil hL hU
    go_enter Tryd.func13, Tryd.ntmps13
    go_wp2
    go_loop [7] (fun iv => ∃ k f : Nat, iv = .int .i64 k ∧ q ≤ k ∧ k ≤ L ∧ Hid (ReadS.ut b 32 tokB q f k = R ∧ L < k + f)) (fun iv => L - (intOf iv).toNat)
    case atStart => exact ⟨q, b.length + 1, rfl, Nat.le_refl _, hpL, HRR.out, by rw [HL.out]; omega⟩
    case round =>
      obtain ⟨k, f, rfl, hk1, hk2, HK⟩ := hrel
      obtain ⟨f, rfl⟩ : ∃ g, f = g + 1 := ⟨f - 1, by have := HK.out.2; omega⟩
      by_cases hlt : k < L
      · obtain ⟨bb, off, rfl, hbb, hcell⟩ := HEL.out k (by rw [HL.out]; omega)
        have hzz := getD_bd HZ.out k
        obtain ⟨z, hzk⟩ : ∃ z, b.getD k 0 = z := ⟨_, rfl⟩
        rw [hzk] at hcell hzz
        obtain ⟨c, hc⟩ : ∃ c : UInt8, ReadS.u8 z = c := ⟨_, rfl⟩
        have hzc : z = (c.toNat : Int) := by rw [← hc]; unfold ReadS.u8; rw [UInt8.toNat_ofNat']; omega
        have HZK : Hid (b.getD k 0 = (c.toNat : Int)) := hzk.trans hzc
        have HU8 : Hid (ReadS.u8 (c.toNat : Int) = c) := by show ReadS.u8 (c.toNat : Int) = c; rw [← hzc]; exact hc
        clear hc hzk hzz
        subst hzc
        have HKB : Hid (k < b.length) := by show k < b.length; rw [HL.out]; exact hlt
        have HSM := Lib.hid (fun W => small_any c W)
        have HGR := Lib.hid (fun W => great_any c W)
        have hcn := c.toNat_lt
        by_cases hq : (c.toNat : Int) = 32
        · have hq' : ((c.toNat : Int) == 32) = true := by rw [hq]; rfl
          have hR2 := HK.out.1
          rw [ReadS.ut_end HKB.out (by rw [HZK.out]; exact hq)] at hR2
          have HRk := Lib.hid hR2
          have htx : Hid (∀ n : Nat, (convert 22 9 (.slice (some ⟨bb, off + q, none⟩) (k - q) (cap - q))).run Tryd.prog (w.drewN n) = .ok (.string (ReadS.txt b q k)) (w.drewN n)) := by
            intro n
            have hb1 : BytesAt (w.drewN n) (.slice (some ⟨bb, off, none⟩) L cap) b := by
              have := HBY.out.below (below_drewN (Below.refl _ _) n)
              rw [HL.out] at this
              exact this
            have hb2 := bytesAt_take (bytesAt_drop hb1 q (by rw [HL.out]; omega)) (k - q) (by rw [List.length_drop, HL.out]; omega)
            exact conv_back hb2 (fun y hy => HZ.out y (List.mem_of_mem_drop (List.mem_of_mem_take hy)))
          have ht0 := htx.out 0
          have htn := htx.out
          have i1 : (q : Int) ≤ (k : Int) := by omega
          have i2 : (k : Int) ≤ (cap : Int) := by omega
          have i3 : (0 : Int) ≤ (q : Int) := by omega
          have i4 : ¬ (cap ≤ q) := by omega
          have HUk : Hid (U = (ReadS.txt b q k, (k, 0))) := by show U = _; rw [HR.out, ← HRk.out]; rfl
          have HMV := Lib.hid (fun n => (H.out.rd.drewN n).move (p := k) (by omega) rfl)
          clear hq hR2
          go_wp2
          go_quiet (fail)
          go_wp2
          go_ret
          rw [HUk.out]
          exact ⟨rfl, H.out.step (mod1 _ _ _ _ _) (HMV.out _) (fun _ => by rw [HL.out]; exact hk2), mod1 _ _ _ _ _⟩
        have hq' : ((c.toNat : Int) == 32) = false := beq_eq_false_iff_ne.2 hq
        have HQ := Lib.hid hq
        clear hq
        rcases hs : smallB c with _ | _
        · rw [hs] at HSM
          rcases hg : greatB c with _ | _
          · rw [hg] at HGR
            have hmay : tokB c = false := by rw [tok_parts, hs, hg]; rfl
            clear hs hg
            have hR2 : R = (0, 2) := by rw [← HK.out.1]; exact ReadS.ut_syn HKB.out (by rw [HZK.out]; exact HQ.out) (.inl (by rw [HZK.out, HU8.out]; exact hmay))
            have HUk : Hid (U = (⟨#[]⟩, (0, 2))) := by show U = _; rw [HR.out, hR2]; rfl
            clear hR2 hmay
            go_wp2_with (first
              | (go_at_call 35; (with_reducible refine (HSM.out _).mono ?_); rintro e w1 ⟨rfl, rfl⟩)
              | (go_at_call 36; (with_reducible refine (HGR.out _).mono ?_); rintro e w1 ⟨rfl, rfl⟩))
            go_ret
            rw [HUk.out]
            exact ⟨rfl, H.out.step (modX _ _ _ _) (H.out.rd.fault (e := 2) (by decide) 0) (by intro h; cases h), modX _ _ _ _⟩
          · rw [hg] at HGR
            have hmay : tokB c = true := by rw [tok_parts, hs, hg]; rfl
            clear hs hg
            have HMAY := Lib.hid hmay
            clear hmay
            by_cases h4 : 400 ≤ k - q
            · have h4' : (400 : Int) ≤ (k : Int) - (q : Int) := by omega
              have hR2 : R = (0, 2) := by rw [← HK.out.1]; exact ReadS.ut_syn HKB.out (by rw [HZK.out]; exact HQ.out) (.inr h4)
              have HUk : Hid (U = (⟨#[]⟩, (0, 2))) := by show U = _; rw [HR.out, hR2]; rfl
              clear hR2 h4
              go_wp2_with (first
              | (go_at_call 35; (with_reducible refine (HSM.out _).mono ?_); rintro e w1 ⟨rfl, rfl⟩)
              | (go_at_call 36; (with_reducible refine (HGR.out _).mono ?_); rintro e w1 ⟨rfl, rfl⟩))
              go_ret
              rw [HUk.out]
              exact ⟨rfl, H.out.step (modX _ _ _ _) (H.out.rd.fault (e := 2) (by decide) 0) (by intro h; cases h), modX _ _ _ _⟩
            · have h4' : (k : Int) - (q : Int) < 400 := by omega
              have HST := Lib.hid (show ReadS.ut b 32 tokB q f (k + 1) = R by rw [← HK.out.1]; exact (ReadS.ut_step HKB.out (by rw [HZK.out]; exact HQ.out) (by rw [HZK.out, HU8.out]; exact HMAY.out) h4).symm)
              clear h4
              go_wp2_with (first
              | (go_at_call 35; (with_reducible refine (HSM.out _).mono ?_); rintro e w1 ⟨rfl, rfl⟩)
              | (go_at_call 36; (with_reducible refine (HGR.out _).mono ?_); rintro e w1 ⟨rfl, rfl⟩))
              go_round
              case rel => exact ⟨k + 1, f, by go_num, by omega, by omega, HST.out, by have := HK.out.2; omega⟩
              case measure => simp [intOf]; omega
        · rw [hs] at HSM
          rcases hg : greatB c with _ | _
          · rw [hg] at HGR
            have hmay : tokB c = true := by rw [tok_parts, hs, hg]; rfl
            clear hs hg
            have HMAY := Lib.hid hmay
            clear hmay
            by_cases h4 : 400 ≤ k - q
            · have h4' : (400 : Int) ≤ (k : Int) - (q : Int) := by omega
              have hR2 : R = (0, 2) := by rw [← HK.out.1]; exact ReadS.ut_syn HKB.out (by rw [HZK.out]; exact HQ.out) (.inr h4)
              have HUk : Hid (U = (⟨#[]⟩, (0, 2))) := by show U = _; rw [HR.out, hR2]; rfl
              clear hR2 h4
              go_wp2_with (first
              | (go_at_call 35; (with_reducible refine (HSM.out _).mono ?_); rintro e w1 ⟨rfl, rfl⟩)
              | (go_at_call 36; (with_reducible refine (HGR.out _).mono ?_); rintro e w1 ⟨rfl, rfl⟩))
              go_ret
              rw [HUk.out]
              exact ⟨rfl, H.out.step (modX _ _ _ _) (H.out.rd.fault (e := 2) (by decide) 0) (by intro h; cases h), modX _ _ _ _⟩
            · have h4' : (k : Int) - (q : Int) < 400 := by omega
              have HST := Lib.hid (show ReadS.ut b 32 tokB q f (k + 1) = R by rw [← HK.out.1]; exact (ReadS.ut_step HKB.out (by rw [HZK.out]; exact HQ.out) (by rw [HZK.out, HU8.out]; exact HMAY.out) h4).symm)
              clear h4
              go_wp2_with (first
              | (go_at_call 35; (with_reducible refine (HSM.out _).mono ?_); rintro e w1 ⟨rfl, rfl⟩)
              | (go_at_call 36; (with_reducible refine (HGR.out _).mono ?_); rintro e w1 ⟨rfl, rfl⟩))
              go_round
              case rel => exact ⟨k + 1, f, by go_num, by omega, by omega, HST.out, by have := HK.out.2; omega⟩
              case measure => simp [intOf]; omega
          · rw [hg] at HGR
            have hmay : tokB c = true := by rw [tok_parts, hs, hg]; rfl
            clear hs hg
            have HMAY := Lib.hid hmay
            clear hmay
            by_cases h4 : 400 ≤ k - q
            · have h4' : (400 : Int) ≤ (k : Int) - (q : Int) := by omega
              have hR2 : R = (0, 2) := by rw [← HK.out.1]; exact ReadS.ut_syn HKB.out (by rw [HZK.out]; exact HQ.out) (.inr h4)
              have HUk : Hid (U = (⟨#[]⟩, (0, 2))) := by show U = _; rw [HR.out, hR2]; rfl
              clear hR2 h4
              go_wp2_with (first
              | (go_at_call 35; (with_reducible refine (HSM.out _).mono ?_); rintro e w1 ⟨rfl, rfl⟩)
              | (go_at_call 36; (with_reducible refine (HGR.out _).mono ?_); rintro e w1 ⟨rfl, rfl⟩))
              go_ret
              rw [HUk.out]
              exact ⟨rfl, H.out.step (modX _ _ _ _) (H.out.rd.fault (e := 2) (by decide) 0) (by intro h; cases h), modX _ _ _ _⟩
            · have h4' : (k : Int) - (q : Int) < 400 := by omega
              have HST := Lib.hid (show ReadS.ut b 32 tokB q f (k + 1) = R by rw [← HK.out.1]; exact (ReadS.ut_step HKB.out (by rw [HZK.out]; exact HQ.out) (by rw [HZK.out, HU8.out]; exact HMAY.out) h4).symm)
              clear h4
              go_wp2_with (first
              | (go_at_call 35; (with_reducible refine (HSM.out _).mono ?_); rintro e w1 ⟨rfl, rfl⟩)
              | (go_at_call 36; (with_reducible refine (HGR.out _).mono ?_); rintro e w1 ⟨rfl, rfl⟩))
              go_round
              case rel => exact ⟨k + 1, f, by go_num, by omega, by omega, HST.out, by have := HK.out.2; omega⟩
              case measure => simp [intOf]; omega
      · have hR2 : R = (0, 8) := by rw [← HK.out.1]; exact ReadS.ut_short (by rw [HL.out]; omega)
        have HUk : Hid (U = (⟨#[]⟩, (0, 8))) := by show U = _; rw [HR.out, hR2]; rfl
        clear hR2
        go_wp2
        go_ret
        rw [HUk.out]
        exact ⟨rfl, H.out.step (modX _ _ _ _) (H.out.rd.fault (e := 8) (by decide) 0) (by intro h; cases h), modX _ _ _ _⟩
  · have hx : ((e : Int) == 0) = false := beq_eq_false_iff_ne.2 (by omega)
    have E := Lib.hid h0
    clear h0 q3
    go_enter Tryd.func13, Tryd.ntmps13
    go_wp2
    go_ret
    have e : ReadS.utS b 32 tokB (p, e) = (⟨#[]⟩, (p, e)) := if_neg E.out
    rw [e]
    exact ⟨rfl, H.out, Mod.refl _ _⟩

set_option maxRecDepth 100000 in
set_option maxHeartbeats 8000000 in
theorem luntil_name {w0 w : World} {X : Nat} {v : Value} {b : List Int} {σ : Nat × Nat} (h : RS bad w0 w X v b σ) :
    Calls Tryd.prog 13 #[.pointer (some ⟨X, 0, none⟩), .int .u8 58, .int .i64 1] w fun e w' => e = .returned (.string (ReadS.utS b 58 smallB σ).1) ∧ RS bad w0 w' X v b (ReadS.utS b 58 smallB σ).2 ∧ Mod (fun k => k = X) w w' := by
  have H := Lib.hid h
  obtain ⟨c0, ⟨q, q1, q2, q3⟩, c2, f0, f1, f2⟩ := id h.rd
  obtain ⟨p, e⟩ := σ
  simp only at c2 q3
  unfold bad at c2
  by_cases h0 : e = 0
  · subst h0
    have hpq : q = p := q3 rfl
    subst hpq
    have hpL : q ≤ b.length := h.ok rfl
    obtain ⟨a0, cap, rfl, hc1, hc2, hnil, _⟩ := h.by0.open
    obtain ⟨a1, c1, e1, _, _, _, hel⟩ := h.bytes.open
    simp only [Value.slice.injEq] at e1
    obtain ⟨rfl, _, rfl⟩ := e1
    have HEL := Lib.hid hel
    have HZ := Lib.hid h.bd
    have hlen := h.len
    have HBY := Lib.hid h.bytes
    obtain ⟨R, hR⟩ : ∃ R, ReadS.ut b 58 smallB q (b.length + 1) q = R := ⟨_, rfl⟩
    have HR : Hid (ReadS.utS b 58 smallB (q, 0) = (if R.2 = 0 then ReadS.txt b q R.1 else ⟨#[]⟩, R)) := by
      show ReadS.utS b 58 smallB (q, 0) = _
      unfold ReadS.utS
      rw [if_pos rfl]
      simp only [hR]
    obtain ⟨U, hU⟩ : ∃ U, ReadS.utS b 58 smallB (q, 0) = U := ⟨_, rfl⟩
    rw [hU] at HR ⊢
    have HRR := Lib.hid hR
    obtain ⟨L, hL⟩ : ∃ L, b.length = L := ⟨_, rfl⟩
    rw [hL] at hc1 hpL hlen c0
    have HL := Lib.hid hL
    clear h q3 hel hR hnil hL hU
    go_enter Tryd.func13, Tryd.ntmps13
    go_wp2
    go_loop [7] (fun iv => ∃ k f : Nat, iv = .int .i64 k ∧ q ≤ k ∧ k ≤ L ∧ Hid (ReadS.ut b 58 smallB q f k = R ∧ L < k + f)) (fun iv => L - (intOf iv).toNat)
    case atStart => exact ⟨q, b.length + 1, rfl, Nat.le_refl _, hpL, HRR.out, by rw [HL.out]; omega⟩
    case round =>
      obtain ⟨k, f, rfl, hk1, hk2, HK⟩ := hrel
      obtain ⟨f, rfl⟩ : ∃ g, f = g + 1 := ⟨f - 1, by have := HK.out.2; omega⟩
      by_cases hlt : k < L
      · obtain ⟨bb, off, rfl, hbb, hcell⟩ := HEL.out k (by rw [HL.out]; omega)
        have hzz := getD_bd HZ.out k
        obtain ⟨z, hzk⟩ : ∃ z, b.getD k 0 = z := ⟨_, rfl⟩
        rw [hzk] at hcell hzz
        obtain ⟨c, hc⟩ : ∃ c : UInt8, ReadS.u8 z = c := ⟨_, rfl⟩
        have hzc : z = (c.toNat : Int) := by rw [← hc]; unfold ReadS.u8; rw [UInt8.toNat_ofNat']; omega
        have HZK : Hid (b.getD k 0 = (c.toNat : Int)) := hzk.trans hzc
        have HU8 : Hid (ReadS.u8 (c.toNat : Int) = c) := by show ReadS.u8 (c.toNat : Int) = c; rw [← hzc]; exact hc
        clear hc hzk hzz
        subst hzc
        have HKB : Hid (k < b.length) := by show k < b.length; rw [HL.out]; exact hlt
        have HSM := Lib.hid (fun W => small_any c W)
        have HGR := Lib.hid (fun W => great_any c W)
        have hcn := c.toNat_lt
        by_cases hq : (c.toNat : Int) = 58
        · have hq' : ((c.toNat : Int) == 58) = true := by rw [hq]; rfl
          have hR2 := HK.out.1
          rw [ReadS.ut_end HKB.out (by rw [HZK.out]; exact hq)] at hR2
          have HRk := Lib.hid hR2
          have htx : Hid (∀ n : Nat, (convert 22 9 (.slice (some ⟨bb, off + q, none⟩) (k - q) (cap - q))).run Tryd.prog (w.drewN n) = .ok (.string (ReadS.txt b q k)) (w.drewN n)) := by
            intro n
            have hb1 : BytesAt (w.drewN n) (.slice (some ⟨bb, off, none⟩) L cap) b := by
              have := HBY.out.below (below_drewN (Below.refl _ _) n)
              rw [HL.out] at this
              exact this
            have hb2 := bytesAt_take (bytesAt_drop hb1 q (by rw [HL.out]; omega)) (k - q) (by rw [List.length_drop, HL.out]; omega)
            exact conv_back hb2 (fun y hy => HZ.out y (List.mem_of_mem_drop (List.mem_of_mem_take hy)))
          have ht0 := htx.out 0
          have htn := htx.out
          have i1 : (q : Int) ≤ (k : Int) := by omega
          have i2 : (k : Int) ≤ (cap : Int) := by omega
          have i3 : (0 : Int) ≤ (q : Int) := by omega
          have i4 : ¬ (cap ≤ q) := by omega
          have HUk : Hid (U = (ReadS.txt b q k, (k, 0))) := by show U = _; rw [HR.out, ← HRk.out]; rfl
          have HMV := Lib.hid (fun n => (H.out.rd.drewN n).move (p := k) (by omega) rfl)
          clear hq hR2
          go_wp2
          go_quiet (fail)
          go_wp2
          go_ret
          rw [HUk.out]
          exact ⟨rfl, H.out.step (mod1 _ _ _ _ _) (HMV.out _) (fun _ => by rw [HL.out]; exact hk2), mod1 _ _ _ _ _⟩
        have hq' : ((c.toNat : Int) == 58) = false := beq_eq_false_iff_ne.2 hq
        have HQ := Lib.hid hq
        clear hq
        rcases hs : smallB c with _ | _
        · rw [hs] at HSM
          rcases hg : greatB c with _ | _
          · rw [hg] at HGR
            have hmay : smallB c = false := hs
            clear hs hg
            have hR2 : R = (0, 2) := by rw [← HK.out.1]; exact ReadS.ut_syn HKB.out (by rw [HZK.out]; exact HQ.out) (.inl (by rw [HZK.out, HU8.out]; exact hmay))
            have HUk : Hid (U = (⟨#[]⟩, (0, 2))) := by show U = _; rw [HR.out, hR2]; rfl
            clear hR2 hmay
            go_wp2_with (first
              | (go_at_call 35; (with_reducible refine (HSM.out _).mono ?_); rintro e w1 ⟨rfl, rfl⟩)
              | (go_at_call 36; (with_reducible refine (HGR.out _).mono ?_); rintro e w1 ⟨rfl, rfl⟩))
            go_ret
            rw [HUk.out]
            exact ⟨rfl, H.out.step (modX _ _ _ _) (H.out.rd.fault (e := 2) (by decide) 0) (by intro h; cases h), modX _ _ _ _⟩
          · rw [hg] at HGR
            have hmay : smallB c = false := hs
            clear hs hg
            have hR2 : R = (0, 2) := by rw [← HK.out.1]; exact ReadS.ut_syn HKB.out (by rw [HZK.out]; exact HQ.out) (.inl (by rw [HZK.out, HU8.out]; exact hmay))
            have HUk : Hid (U = (⟨#[]⟩, (0, 2))) := by show U = _; rw [HR.out, hR2]; rfl
            clear hR2 hmay
            go_wp2_with (first
              | (go_at_call 35; (with_reducible refine (HSM.out _).mono ?_); rintro e w1 ⟨rfl, rfl⟩)
              | (go_at_call 36; (with_reducible refine (HGR.out _).mono ?_); rintro e w1 ⟨rfl, rfl⟩))
            go_ret
            rw [HUk.out]
            exact ⟨rfl, H.out.step (modX _ _ _ _) (H.out.rd.fault (e := 2) (by decide) 0) (by intro h; cases h), modX _ _ _ _⟩
        · rw [hs] at HSM
          rcases hg : greatB c with _ | _
          · rw [hg] at HGR
            have hmay : smallB c = true := hs
            clear hs hg
            have HMAY := Lib.hid hmay
            clear hmay
            by_cases h4 : 400 ≤ k - q
            · have h4' : (400 : Int) ≤ (k : Int) - (q : Int) := by omega
              have hR2 : R = (0, 2) := by rw [← HK.out.1]; exact ReadS.ut_syn HKB.out (by rw [HZK.out]; exact HQ.out) (.inr h4)
              have HUk : Hid (U = (⟨#[]⟩, (0, 2))) := by show U = _; rw [HR.out, hR2]; rfl
              clear hR2 h4
              go_wp2_with (first
              | (go_at_call 35; (with_reducible refine (HSM.out _).mono ?_); rintro e w1 ⟨rfl, rfl⟩)
              | (go_at_call 36; (with_reducible refine (HGR.out _).mono ?_); rintro e w1 ⟨rfl, rfl⟩))
              go_ret
              rw [HUk.out]
              exact ⟨rfl, H.out.step (modX _ _ _ _) (H.out.rd.fault (e := 2) (by decide) 0) (by intro h; cases h), modX _ _ _ _⟩
            · have h4' : (k : Int) - (q : Int) < 400 := by omega
              have HST := Lib.hid (show ReadS.ut b 58 smallB q f (k + 1) = R by rw [← HK.out.1]; exact (ReadS.ut_step HKB.out (by rw [HZK.out]; exact HQ.out) (by rw [HZK.out, HU8.out]; exact HMAY.out) h4).symm)
              clear h4
              go_wp2_with (first
              | (go_at_call 35; (with_reducible refine (HSM.out _).mono ?_); rintro e w1 ⟨rfl, rfl⟩)
              | (go_at_call 36; (with_reducible refine (HGR.out _).mono ?_); rintro e w1 ⟨rfl, rfl⟩))
              go_round
              case rel => exact ⟨k + 1, f, by go_num, by omega, by omega, HST.out, by have := HK.out.2; omega⟩
              case measure => simp [intOf]; omega
          · rw [hg] at HGR
            have hmay : smallB c = true := hs
            clear hs hg
            have HMAY := Lib.hid hmay
            clear hmay
            by_cases h4 : 400 ≤ k - q
            · have h4' : (400 : Int) ≤ (k : Int) - (q : Int) := by omega
              have hR2 : R = (0, 2) := by rw [← HK.out.1]; exact ReadS.ut_syn HKB.out (by rw [HZK.out]; exact HQ.out) (.inr h4)
              have HUk : Hid (U = (⟨#[]⟩, (0, 2))) := by show U = _; rw [HR.out, hR2]; rfl
              clear hR2 h4
              go_wp2_with (first
              | (go_at_call 35; (with_reducible refine (HSM.out _).mono ?_); rintro e w1 ⟨rfl, rfl⟩)
              | (go_at_call 36; (with_reducible refine (HGR.out _).mono ?_); rintro e w1 ⟨rfl, rfl⟩))
              go_ret
              rw [HUk.out]
              exact ⟨rfl, H.out.step (modX _ _ _ _) (H.out.rd.fault (e := 2) (by decide) 0) (by intro h; cases h), modX _ _ _ _⟩
            · have h4' : (k : Int) - (q : Int) < 400 := by omega
              have HST := Lib.hid (show ReadS.ut b 58 smallB q f (k + 1) = R by rw [← HK.out.1]; exact (ReadS.ut_step HKB.out (by rw [HZK.out]; exact HQ.out) (by rw [HZK.out, HU8.out]; exact HMAY.out) h4).symm)
              clear h4
              go_wp2_with (first
              | (go_at_call 35; (with_reducible refine (HSM.out _).mono ?_); rintro e w1 ⟨rfl, rfl⟩)
              | (go_at_call 36; (with_reducible refine (HGR.out _).mono ?_); rintro e w1 ⟨rfl, rfl⟩))
              go_round
              case rel => exact ⟨k + 1, f, by go_num, by omega, by omega, HST.out, by have := HK.out.2; omega⟩
              case measure => simp [intOf]; omega
      · have hR2 : R = (0, 8) := by rw [← HK.out.1]; exact ReadS.ut_short (by rw [HL.out]; omega)
        have HUk : Hid (U = (⟨#[]⟩, (0, 8))) := by show U = _; rw [HR.out, hR2]; rfl
        clear hR2
        go_wp2
        go_ret
        rw [HUk.out]
        exact ⟨rfl, H.out.step (modX _ _ _ _) (H.out.rd.fault (e := 8) (by decide) 0) (by intro h; cases h), modX _ _ _ _⟩
  · have hx : ((e : Int) == 0) = false := beq_eq_false_iff_ne.2 (by omega)
    have E := Lib.hid h0
    clear h0 q3
    go_enter Tryd.func13, Tryd.ntmps13
    go_wp2
    go_ret
    have e : ReadS.utS b 58 smallB (p, e) = (⟨#[]⟩, (p, e)) := if_neg E.out
    rw [e]
    exact ⟨rfl, H.out, Mod.refl _ _⟩

set_option maxRecDepth 100000 in
set_option maxHeartbeats 8000000 in
theorem luntil_visible {w0 w : World} {X : Nat} {v : Value} {b : List Int} {σ : Nat × Nat} (h : RS bad w0 w X v b σ) :
    Calls Tryd.prog 13 #[.pointer (some ⟨X, 0, none⟩), .int .u8 32, .int .i64 2] w fun e w' => e = .returned (.string (ReadS.utS b 32 ReadS.visB σ).1) ∧ RS bad w0 w' X v b (ReadS.utS b 32 ReadS.visB σ).2 ∧ Mod (fun k => k = X) w w' := by
  have H := Lib.hid h
  obtain ⟨c0, ⟨q, q1, q2, q3⟩, c2, f0, f1, f2⟩ := id h.rd
  obtain ⟨p, e⟩ := σ
  simp only at c2 q3
  unfold bad at c2
  by_cases h0 : e = 0
  · subst h0
    have hpq : q = p := q3 rfl
    subst hpq
    have hpL : q ≤ b.length := h.ok rfl
    obtain ⟨a0, cap, rfl, hc1, hc2, hnil, _⟩ := h.by0.open
    obtain ⟨a1, c1, e1, _, _, _, hel⟩ := h.bytes.open
    simp only [Value.slice.injEq] at e1
    obtain ⟨rfl, _, rfl⟩ := e1
    have HEL := Lib.hid hel
    have HZ := Lib.hid h.bd
    have hlen := h.len
    have HBY := Lib.hid h.bytes
    obtain ⟨R, hR⟩ : ∃ R, ReadS.ut b 32 ReadS.visB q (b.length + 1) q = R := ⟨_, rfl⟩
    have HR : Hid (ReadS.utS b 32 ReadS.visB (q, 0) = (if R.2 = 0 then ReadS.txt b q R.1 else ⟨#[]⟩, R)) := by
      show ReadS.utS b 32 ReadS.visB (q, 0) = _
      unfold ReadS.utS
      rw [if_pos rfl]
      simp only [hR]
    obtain ⟨U, hU⟩ : ∃ U, ReadS.utS b 32 ReadS.visB (q, 0) = U := ⟨_, rfl⟩
    rw [hU] at HR ⊢
    have HRR := Lib.hid hR
    obtain ⟨L, hL⟩ : ∃ L, b.length = L := ⟨_, rfl⟩
    rw [hL] at hc1 hpL hlen c0
    have HL := Lib.hid hL
    clear h q3 hel hR hnil hL hU
    go_enter Tryd.func13, Tryd.ntmps13
    go_wp2
    go_loop [7] (fun iv => ∃ k f : Nat, iv = .int .i64 k ∧ q ≤ k ∧ k ≤ L ∧ Hid (ReadS.ut b 32 ReadS.visB q f k = R ∧ L < k + f)) (fun iv => L - (intOf iv).toNat)
    case atStart => exact ⟨q, b.length + 1, rfl, Nat.le_refl _, hpL, HRR.out, by rw [HL.out]; omega⟩
    case round =>
      obtain ⟨k, f, rfl, hk1, hk2, HK⟩ := hrel
      obtain ⟨f, rfl⟩ : ∃ g, f = g + 1 := ⟨f - 1, by have := HK.out.2; omega⟩
      by_cases hlt : k < L
      · obtain ⟨bb, off, rfl, hbb, hcell⟩ := HEL.out k (by rw [HL.out]; omega)
        have hzz := getD_bd HZ.out k
        obtain ⟨z, hzk⟩ : ∃ z, b.getD k 0 = z := ⟨_, rfl⟩
        rw [hzk] at hcell hzz
        obtain ⟨c, hc⟩ : ∃ c : UInt8, ReadS.u8 z = c := ⟨_, rfl⟩
        have hzc : z = (c.toNat : Int) := by rw [← hc]; unfold ReadS.u8; rw [UInt8.toNat_ofNat']; omega
        have HZK : Hid (b.getD k 0 = (c.toNat : Int)) := hzk.trans hzc
        have HU8 : Hid (ReadS.u8 (c.toNat : Int) = c) := by show ReadS.u8 (c.toNat : Int) = c; rw [← hzc]; exact hc
        clear hc hzk hzz
        subst hzc
        have HKB : Hid (k < b.length) := by show k < b.length; rw [HL.out]; exact hlt
        have HSM := Lib.hid (fun W => small_any c W)
        have HGR := Lib.hid (fun W => great_any c W)
        have hcn := c.toNat_lt
        by_cases hq : (c.toNat : Int) = 32
        · have hq' : ((c.toNat : Int) == 32) = true := by rw [hq]; rfl
          have hR2 := HK.out.1
          rw [ReadS.ut_end HKB.out (by rw [HZK.out]; exact hq)] at hR2
          have HRk := Lib.hid hR2
          have htx : Hid (∀ n : Nat, (convert 22 9 (.slice (some ⟨bb, off + q, none⟩) (k - q) (cap - q))).run Tryd.prog (w.drewN n) = .ok (.string (ReadS.txt b q k)) (w.drewN n)) := by
            intro n
            have hb1 : BytesAt (w.drewN n) (.slice (some ⟨bb, off, none⟩) L cap) b := by
              have := HBY.out.below (below_drewN (Below.refl _ _) n)
              rw [HL.out] at this
              exact this
            have hb2 := bytesAt_take (bytesAt_drop hb1 q (by rw [HL.out]; omega)) (k - q) (by rw [List.length_drop, HL.out]; omega)
            exact conv_back hb2 (fun y hy => HZ.out y (List.mem_of_mem_drop (List.mem_of_mem_take hy)))
          have ht0 := htx.out 0
          have htn := htx.out
          have i1 : (q : Int) ≤ (k : Int) := by omega
          have i2 : (k : Int) ≤ (cap : Int) := by omega
          have i3 : (0 : Int) ≤ (q : Int) := by omega
          have i4 : ¬ (cap ≤ q) := by omega
          have HUk : Hid (U = (ReadS.txt b q k, (k, 0))) := by show U = _; rw [HR.out, ← HRk.out]; rfl
          have HMV := Lib.hid (fun n => (H.out.rd.drewN n).move (p := k) (by omega) rfl)
          clear hq hR2
          go_wp2
          go_quiet (fail)
          go_wp2
          go_ret
          rw [HUk.out]
          exact ⟨rfl, H.out.step (mod1 _ _ _ _ _) (HMV.out _) (fun _ => by rw [HL.out]; exact hk2), mod1 _ _ _ _ _⟩
        have hq' : ((c.toNat : Int) == 32) = false := beq_eq_false_iff_ne.2 hq
        have HQ := Lib.hid hq
        clear hq
        have hrange : smallB c = true → 33 ≤ c.toNat ∧ c.toNat ≤ 126 := fun h => by have := (smallB_iff c).1 h; omega
        have hmayiff : ReadS.visB c = (decide (33 ≤ c.toNat) && decide (c.toNat ≤ 126)) := rfl
        rcases hs : smallB c with _ | _
        · rw [hs] at HSM
          rcases hg : greatB c with _ | _
          · rw [hg] at HGR
            by_cases r1 : (32 : Int) < (c.toNat : Int)
            · by_cases r2 : (c.toNat : Int) ≤ 126
              · have hmay : ReadS.visB c = true := by rw [hmayiff, decide_eq_true (by omega), decide_eq_true (by omega)]; rfl
                clear hs hg hrange hmayiff
                have HMAY := Lib.hid hmay
                clear hmay
                by_cases h4 : 400 ≤ k - q
                · have h4' : (400 : Int) ≤ (k : Int) - (q : Int) := by omega
                  have hR2 : R = (0, 2) := by rw [← HK.out.1]; exact ReadS.ut_syn HKB.out (by rw [HZK.out]; exact HQ.out) (.inr h4)
                  have HUk : Hid (U = (⟨#[]⟩, (0, 2))) := by show U = _; rw [HR.out, hR2]; rfl
                  clear hR2 h4
                  go_wp2_with (first
                  | (go_at_call 35; (with_reducible refine (HSM.out _).mono ?_); rintro e w1 ⟨rfl, rfl⟩)
                  | (go_at_call 36; (with_reducible refine (HGR.out _).mono ?_); rintro e w1 ⟨rfl, rfl⟩))
                  go_ret
                  rw [HUk.out]
                  exact ⟨rfl, H.out.step (modX _ _ _ _) (H.out.rd.fault (e := 2) (by decide) 0) (by intro h; cases h), modX _ _ _ _⟩
                · have h4' : (k : Int) - (q : Int) < 400 := by omega
                  have HST := Lib.hid (show ReadS.ut b 32 ReadS.visB q f (k + 1) = R by rw [← HK.out.1]; exact (ReadS.ut_step HKB.out (by rw [HZK.out]; exact HQ.out) (by rw [HZK.out, HU8.out]; exact HMAY.out) h4).symm)
                  clear h4
                  go_wp2_with (first
                  | (go_at_call 35; (with_reducible refine (HSM.out _).mono ?_); rintro e w1 ⟨rfl, rfl⟩)
                  | (go_at_call 36; (with_reducible refine (HGR.out _).mono ?_); rintro e w1 ⟨rfl, rfl⟩))
                  go_round
                  case rel => exact ⟨k + 1, f, by go_num, by omega, by omega, HST.out, by have := HK.out.2; omega⟩
                  case measure => simp [intOf]; omega
              · have hmay : ReadS.visB c = false := by rw [hmayiff, decide_eq_true (p := 33 ≤ c.toNat) (by omega), decide_eq_false (by omega)]; rfl
                have r2' : (126 : Int) < (c.toNat : Int) := by omega
                clear hs hg hrange hmayiff r2
                have hR2 : R = (0, 2) := by rw [← HK.out.1]; exact ReadS.ut_syn HKB.out (by rw [HZK.out]; exact HQ.out) (.inl (by rw [HZK.out, HU8.out]; exact hmay))
                have HUk : Hid (U = (⟨#[]⟩, (0, 2))) := by show U = _; rw [HR.out, hR2]; rfl
                clear hR2 hmay
                go_wp2_with (first
                  | (go_at_call 35; (with_reducible refine (HSM.out _).mono ?_); rintro e w1 ⟨rfl, rfl⟩)
                  | (go_at_call 36; (with_reducible refine (HGR.out _).mono ?_); rintro e w1 ⟨rfl, rfl⟩))
                go_ret
                rw [HUk.out]
                exact ⟨rfl, H.out.step (modX _ _ _ _) (H.out.rd.fault (e := 2) (by decide) 0) (by intro h; cases h), modX _ _ _ _⟩
            · have hmay : ReadS.visB c = false := by rw [hmayiff, decide_eq_false (by omega)]; rfl
              have r1' : (c.toNat : Int) ≤ 32 := by omega
              clear hs hg hrange hmayiff r1
              have hR2 : R = (0, 2) := by rw [← HK.out.1]; exact ReadS.ut_syn HKB.out (by rw [HZK.out]; exact HQ.out) (.inl (by rw [HZK.out, HU8.out]; exact hmay))
              have HUk : Hid (U = (⟨#[]⟩, (0, 2))) := by show U = _; rw [HR.out, hR2]; rfl
              clear hR2 hmay
              go_wp2_with (first
                | (go_at_call 35; (with_reducible refine (HSM.out _).mono ?_); rintro e w1 ⟨rfl, rfl⟩)
                | (go_at_call 36; (with_reducible refine (HGR.out _).mono ?_); rintro e w1 ⟨rfl, rfl⟩))
              go_ret
              rw [HUk.out]
              exact ⟨rfl, H.out.step (modX _ _ _ _) (H.out.rd.fault (e := 2) (by decide) 0) (by intro h; cases h), modX _ _ _ _⟩
          · rw [hg] at HGR
            by_cases r1 : (32 : Int) < (c.toNat : Int)
            · by_cases r2 : (c.toNat : Int) ≤ 126
              · have hmay : ReadS.visB c = true := by rw [hmayiff, decide_eq_true (by omega), decide_eq_true (by omega)]; rfl
                clear hs hg hrange hmayiff
                have HMAY := Lib.hid hmay
                clear hmay
                by_cases h4 : 400 ≤ k - q
                · have h4' : (400 : Int) ≤ (k : Int) - (q : Int) := by omega
                  have hR2 : R = (0, 2) := by rw [← HK.out.1]; exact ReadS.ut_syn HKB.out (by rw [HZK.out]; exact HQ.out) (.inr h4)
                  have HUk : Hid (U = (⟨#[]⟩, (0, 2))) := by show U = _; rw [HR.out, hR2]; rfl
                  clear hR2 h4
                  go_wp2_with (first
                  | (go_at_call 35; (with_reducible refine (HSM.out _).mono ?_); rintro e w1 ⟨rfl, rfl⟩)
                  | (go_at_call 36; (with_reducible refine (HGR.out _).mono ?_); rintro e w1 ⟨rfl, rfl⟩))
                  go_ret
                  rw [HUk.out]
                  exact ⟨rfl, H.out.step (modX _ _ _ _) (H.out.rd.fault (e := 2) (by decide) 0) (by intro h; cases h), modX _ _ _ _⟩
                · have h4' : (k : Int) - (q : Int) < 400 := by omega
                  have HST := Lib.hid (show ReadS.ut b 32 ReadS.visB q f (k + 1) = R by rw [← HK.out.1]; exact (ReadS.ut_step HKB.out (by rw [HZK.out]; exact HQ.out) (by rw [HZK.out, HU8.out]; exact HMAY.out) h4).symm)
                  clear h4
                  go_wp2_with (first
                  | (go_at_call 35; (with_reducible refine (HSM.out _).mono ?_); rintro e w1 ⟨rfl, rfl⟩)
                  | (go_at_call 36; (with_reducible refine (HGR.out _).mono ?_); rintro e w1 ⟨rfl, rfl⟩))
                  go_round
                  case rel => exact ⟨k + 1, f, by go_num, by omega, by omega, HST.out, by have := HK.out.2; omega⟩
                  case measure => simp [intOf]; omega
              · have hmay : ReadS.visB c = false := by rw [hmayiff, decide_eq_true (p := 33 ≤ c.toNat) (by omega), decide_eq_false (by omega)]; rfl
                have r2' : (126 : Int) < (c.toNat : Int) := by omega
                clear hs hg hrange hmayiff r2
                have hR2 : R = (0, 2) := by rw [← HK.out.1]; exact ReadS.ut_syn HKB.out (by rw [HZK.out]; exact HQ.out) (.inl (by rw [HZK.out, HU8.out]; exact hmay))
                have HUk : Hid (U = (⟨#[]⟩, (0, 2))) := by show U = _; rw [HR.out, hR2]; rfl
                clear hR2 hmay
                go_wp2_with (first
                  | (go_at_call 35; (with_reducible refine (HSM.out _).mono ?_); rintro e w1 ⟨rfl, rfl⟩)
                  | (go_at_call 36; (with_reducible refine (HGR.out _).mono ?_); rintro e w1 ⟨rfl, rfl⟩))
                go_ret
                rw [HUk.out]
                exact ⟨rfl, H.out.step (modX _ _ _ _) (H.out.rd.fault (e := 2) (by decide) 0) (by intro h; cases h), modX _ _ _ _⟩
            · have hmay : ReadS.visB c = false := by rw [hmayiff, decide_eq_false (by omega)]; rfl
              have r1' : (c.toNat : Int) ≤ 32 := by omega
              clear hs hg hrange hmayiff r1
              have hR2 : R = (0, 2) := by rw [← HK.out.1]; exact ReadS.ut_syn HKB.out (by rw [HZK.out]; exact HQ.out) (.inl (by rw [HZK.out, HU8.out]; exact hmay))
              have HUk : Hid (U = (⟨#[]⟩, (0, 2))) := by show U = _; rw [HR.out, hR2]; rfl
              clear hR2 hmay
              go_wp2_with (first
                | (go_at_call 35; (with_reducible refine (HSM.out _).mono ?_); rintro e w1 ⟨rfl, rfl⟩)
                | (go_at_call 36; (with_reducible refine (HGR.out _).mono ?_); rintro e w1 ⟨rfl, rfl⟩))
              go_ret
              rw [HUk.out]
              exact ⟨rfl, H.out.step (modX _ _ _ _) (H.out.rd.fault (e := 2) (by decide) 0) (by intro h; cases h), modX _ _ _ _⟩
        · rw [hs] at HSM
          rcases hg : greatB c with _ | _
          · rw [hg] at HGR
            have hmay : ReadS.visB c = true := by rw [hmayiff, decide_eq_true (hrange hs).1, decide_eq_true (hrange hs).2]; rfl
            clear hs hg hrange hmayiff
            have HMAY := Lib.hid hmay
            clear hmay
            by_cases h4 : 400 ≤ k - q
            · have h4' : (400 : Int) ≤ (k : Int) - (q : Int) := by omega
              have hR2 : R = (0, 2) := by rw [← HK.out.1]; exact ReadS.ut_syn HKB.out (by rw [HZK.out]; exact HQ.out) (.inr h4)
              have HUk : Hid (U = (⟨#[]⟩, (0, 2))) := by show U = _; rw [HR.out, hR2]; rfl
              clear hR2 h4
              go_wp2_with (first
              | (go_at_call 35; (with_reducible refine (HSM.out _).mono ?_); rintro e w1 ⟨rfl, rfl⟩)
              | (go_at_call 36; (with_reducible refine (HGR.out _).mono ?_); rintro e w1 ⟨rfl, rfl⟩))
              go_ret
              rw [HUk.out]
              exact ⟨rfl, H.out.step (modX _ _ _ _) (H.out.rd.fault (e := 2) (by decide) 0) (by intro h; cases h), modX _ _ _ _⟩
            · have h4' : (k : Int) - (q : Int) < 400 := by omega
              have HST := Lib.hid (show ReadS.ut b 32 ReadS.visB q f (k + 1) = R by rw [← HK.out.1]; exact (ReadS.ut_step HKB.out (by rw [HZK.out]; exact HQ.out) (by rw [HZK.out, HU8.out]; exact HMAY.out) h4).symm)
              clear h4
              go_wp2_with (first
              | (go_at_call 35; (with_reducible refine (HSM.out _).mono ?_); rintro e w1 ⟨rfl, rfl⟩)
              | (go_at_call 36; (with_reducible refine (HGR.out _).mono ?_); rintro e w1 ⟨rfl, rfl⟩))
              go_round
              case rel => exact ⟨k + 1, f, by go_num, by omega, by omega, HST.out, by have := HK.out.2; omega⟩
              case measure => simp [intOf]; omega
          · rw [hg] at HGR
            have hmay : ReadS.visB c = true := by rw [hmayiff, decide_eq_true (hrange hs).1, decide_eq_true (hrange hs).2]; rfl
            clear hs hg hrange hmayiff
            have HMAY := Lib.hid hmay
            clear hmay
            by_cases h4 : 400 ≤ k - q
            · have h4' : (400 : Int) ≤ (k : Int) - (q : Int) := by omega
              have hR2 : R = (0, 2) := by rw [← HK.out.1]; exact ReadS.ut_syn HKB.out (by rw [HZK.out]; exact HQ.out) (.inr h4)
              have HUk : Hid (U = (⟨#[]⟩, (0, 2))) := by show U = _; rw [HR.out, hR2]; rfl
              clear hR2 h4
              go_wp2_with (first
              | (go_at_call 35; (with_reducible refine (HSM.out _).mono ?_); rintro e w1 ⟨rfl, rfl⟩)
              | (go_at_call 36; (with_reducible refine (HGR.out _).mono ?_); rintro e w1 ⟨rfl, rfl⟩))
              go_ret
              rw [HUk.out]
              exact ⟨rfl, H.out.step (modX _ _ _ _) (H.out.rd.fault (e := 2) (by decide) 0) (by intro h; cases h), modX _ _ _ _⟩
            · have h4' : (k : Int) - (q : Int) < 400 := by omega
              have HST := Lib.hid (show ReadS.ut b 32 ReadS.visB q f (k + 1) = R by rw [← HK.out.1]; exact (ReadS.ut_step HKB.out (by rw [HZK.out]; exact HQ.out) (by rw [HZK.out, HU8.out]; exact HMAY.out) h4).symm)
              clear h4
              go_wp2_with (first
              | (go_at_call 35; (with_reducible refine (HSM.out _).mono ?_); rintro e w1 ⟨rfl, rfl⟩)
              | (go_at_call 36; (with_reducible refine (HGR.out _).mono ?_); rintro e w1 ⟨rfl, rfl⟩))
              go_round
              case rel => exact ⟨k + 1, f, by go_num, by omega, by omega, HST.out, by have := HK.out.2; omega⟩
              case measure => simp [intOf]; omega
      · have hR2 : R = (0, 8) := by rw [← HK.out.1]; exact ReadS.ut_short (by rw [HL.out]; omega)
        have HUk : Hid (U = (⟨#[]⟩, (0, 8))) := by show U = _; rw [HR.out, hR2]; rfl
        clear hR2
        go_wp2
        go_ret
        rw [HUk.out]
        exact ⟨rfl, H.out.step (modX _ _ _ _) (H.out.rd.fault (e := 8) (by decide) 0) (by intro h; cases h), modX _ _ _ _⟩
  · have hx : ((e : Int) == 0) = false := beq_eq_false_iff_ne.2 (by omega)
    have E := Lib.hid h0
    clear h0 q3
    go_enter Tryd.func13, Tryd.ntmps13
    go_wp2
    go_ret
    have e : ReadS.utS b 32 ReadS.visB (p, e) = (⟨#[]⟩, (p, e)) := if_neg E.out
    rw [e]
    exact ⟨rfl, H.out, Mod.refl _ _⟩

set_option maxRecDepth 100000 in
set_option maxHeartbeats 8000000 in
theorem luntil_plain {w0 w : World} {X : Nat} {v : Value} {b : List Int} {σ : Nat × Nat} (h : RS bad w0 w X v b σ) :
    Calls Tryd.prog 13 #[.pointer (some ⟨X, 0, none⟩), .int .u8 13, .int .i64 3] w fun e w' => e = .returned (.string (ReadS.utS b 13 okB σ).1) ∧ RS bad w0 w' X v b (ReadS.utS b 13 okB σ).2 ∧ Mod (fun k => k = X) w w' := by
  have H := Lib.hid h
  obtain ⟨c0, ⟨q, q1, q2, q3⟩, c2, f0, f1, f2⟩ := id h.rd
  obtain ⟨p, e⟩ := σ
  simp only at c2 q3
  unfold bad at c2
  by_cases h0 : e = 0
  · subst h0
    have hpq : q = p := q3 rfl
    subst hpq
    have hpL : q ≤ b.length := h.ok rfl
    obtain ⟨a0, cap, rfl, hc1, hc2, hnil, _⟩ := h.by0.open
    obtain ⟨a1, c1, e1, _, _, _, hel⟩ := h.bytes.open
    simp only [Value.slice.injEq] at e1
    obtain ⟨rfl, _, rfl⟩ := e1
    have HEL := Lib.hid hel
    have HZ := Lib.hid h.bd
    have hlen := h.len
    have HBY := Lib.hid h.bytes
    obtain ⟨R, hR⟩ : ∃ R, ReadS.ut b 13 okB q (b.length + 1) q = R := ⟨_, rfl⟩
    have HR : Hid (ReadS.utS b 13 okB (q, 0) = (if R.2 = 0 then ReadS.txt b q R.1 else ⟨#[]⟩, R)) := by
      show ReadS.utS b 13 okB (q, 0) = _
      unfold ReadS.utS
      rw [if_pos rfl]
      simp only [hR]
    obtain ⟨U, hU⟩ : ∃ U, ReadS.utS b 13 okB (q, 0) = U := ⟨_, rfl⟩
    rw [hU] at HR ⊢
    have HRR := Lib.hid hR
    obtain ⟨L, hL⟩ : ∃ L, b.length = L := ⟨_, rfl⟩
    rw [hL] at hc1 hpL hlen c0
    have HL := Lib.hid hL
    clear h q3 hel hR hnil hL hU
    go_enter Tryd.func13, Tryd.ntmps13
    go_wp2
    go_loop [7] (fun iv => ∃ k f : Nat, iv = .int .i64 k ∧ q ≤ k ∧ k ≤ L ∧ Hid (ReadS.ut b 13 okB q f k = R ∧ L < k + f)) (fun iv => L - (intOf iv).toNat)
    case atStart => exact ⟨q, b.length + 1, rfl, Nat.le_refl _, hpL, HRR.out, by rw [HL.out]; omega⟩
    case round =>
      obtain ⟨k, f, rfl, hk1, hk2, HK⟩ := hrel
      obtain ⟨f, rfl⟩ : ∃ g, f = g + 1 := ⟨f - 1, by have := HK.out.2; omega⟩
      by_cases hlt : k < L
      · obtain ⟨bb, off, rfl, hbb, hcell⟩ := HEL.out k (by rw [HL.out]; omega)
        have hzz := getD_bd HZ.out k
        obtain ⟨z, hzk⟩ : ∃ z, b.getD k 0 = z := ⟨_, rfl⟩
        rw [hzk] at hcell hzz
        obtain ⟨c, hc⟩ : ∃ c : UInt8, ReadS.u8 z = c := ⟨_, rfl⟩
        have hzc : z = (c.toNat : Int) := by rw [← hc]; unfold ReadS.u8; rw [UInt8.toNat_ofNat']; omega
        have HZK : Hid (b.getD k 0 = (c.toNat : Int)) := hzk.trans hzc
        have HU8 : Hid (ReadS.u8 (c.toNat : Int) = c) := by show ReadS.u8 (c.toNat : Int) = c; rw [← hzc]; exact hc
        clear hc hzk hzz
        subst hzc
        have HKB : Hid (k < b.length) := by show k < b.length; rw [HL.out]; exact hlt
        have HSM := Lib.hid (fun W => small_any c W)
        have HGR := Lib.hid (fun W => great_any c W)
        have hcn := c.toNat_lt
        by_cases hq : (c.toNat : Int) = 13
        · have hq' : ((c.toNat : Int) == 13) = true := by rw [hq]; rfl
          have hR2 := HK.out.1
          rw [ReadS.ut_end HKB.out (by rw [HZK.out]; exact hq)] at hR2
          have HRk := Lib.hid hR2
          have htx : Hid (∀ n : Nat, (convert 22 9 (.slice (some ⟨bb, off + q, none⟩) (k - q) (cap - q))).run Tryd.prog (w.drewN n) = .ok (.string (ReadS.txt b q k)) (w.drewN n)) := by
            intro n
            have hb1 : BytesAt (w.drewN n) (.slice (some ⟨bb, off, none⟩) L cap) b := by
              have := HBY.out.below (below_drewN (Below.refl _ _) n)
              rw [HL.out] at this
              exact this
            have hb2 := bytesAt_take (bytesAt_drop hb1 q (by rw [HL.out]; omega)) (k - q) (by rw [List.length_drop, HL.out]; omega)
            exact conv_back hb2 (fun y hy => HZ.out y (List.mem_of_mem_drop (List.mem_of_mem_take hy)))
          have ht0 := htx.out 0
          have htn := htx.out
          have i1 : (q : Int) ≤ (k : Int) := by omega
          have i2 : (k : Int) ≤ (cap : Int) := by omega
          have i3 : (0 : Int) ≤ (q : Int) := by omega
          have i4 : ¬ (cap ≤ q) := by omega
          have HUk : Hid (U = (ReadS.txt b q k, (k, 0))) := by show U = _; rw [HR.out, ← HRk.out]; rfl
          have HMV := Lib.hid (fun n => (H.out.rd.drewN n).move (p := k) (by omega) rfl)
          clear hq hR2
          go_wp2
          go_quiet (fail)
          go_wp2
          go_ret
          rw [HUk.out]
          exact ⟨rfl, H.out.step (mod1 _ _ _ _ _) (HMV.out _) (fun _ => by rw [HL.out]; exact hk2), mod1 _ _ _ _ _⟩
        have hq' : ((c.toNat : Int) == 13) = false := beq_eq_false_iff_ne.2 hq
        have HQ := Lib.hid hq
        clear hq
        have hrange : smallB c = true → 32 ≤ c.toNat ∧ c.toNat ≤ 126 := fun h => by have := (smallB_iff c).1 h; omega
        have hmayiff : okB c = (decide (32 ≤ c.toNat) && decide (c.toNat ≤ 126)) := rfl
        rcases hs : smallB c with _ | _
        · rw [hs] at HSM
          rcases hg : greatB c with _ | _
          · rw [hg] at HGR
            by_cases r1 : (32 : Int) ≤ (c.toNat : Int)
            · by_cases r2 : (c.toNat : Int) ≤ 126
              · have hmay : okB c = true := by rw [hmayiff, decide_eq_true (by omega), decide_eq_true (by omega)]; rfl
                clear hs hg hrange hmayiff
                have HMAY := Lib.hid hmay
                clear hmay
                by_cases h4 : 400 ≤ k - q
                · have h4' : (400 : Int) ≤ (k : Int) - (q : Int) := by omega
                  have hR2 : R = (0, 2) := by rw [← HK.out.1]; exact ReadS.ut_syn HKB.out (by rw [HZK.out]; exact HQ.out) (.inr h4)
                  have HUk : Hid (U = (⟨#[]⟩, (0, 2))) := by show U = _; rw [HR.out, hR2]; rfl
                  clear hR2 h4
                  go_wp2_with (first
                  | (go_at_call 35; (with_reducible refine (HSM.out _).mono ?_); rintro e w1 ⟨rfl, rfl⟩)
                  | (go_at_call 36; (with_reducible refine (HGR.out _).mono ?_); rintro e w1 ⟨rfl, rfl⟩))
                  go_ret
                  rw [HUk.out]
                  exact ⟨rfl, H.out.step (modX _ _ _ _) (H.out.rd.fault (e := 2) (by decide) 0) (by intro h; cases h), modX _ _ _ _⟩
                · have h4' : (k : Int) - (q : Int) < 400 := by omega
                  have HST := Lib.hid (show ReadS.ut b 13 okB q f (k + 1) = R by rw [← HK.out.1]; exact (ReadS.ut_step HKB.out (by rw [HZK.out]; exact HQ.out) (by rw [HZK.out, HU8.out]; exact HMAY.out) h4).symm)
                  clear h4
                  go_wp2_with (first
                  | (go_at_call 35; (with_reducible refine (HSM.out _).mono ?_); rintro e w1 ⟨rfl, rfl⟩)
                  | (go_at_call 36; (with_reducible refine (HGR.out _).mono ?_); rintro e w1 ⟨rfl, rfl⟩))
                  go_round
                  case rel => exact ⟨k + 1, f, by go_num, by omega, by omega, HST.out, by have := HK.out.2; omega⟩
                  case measure => simp [intOf]; omega
              · have hmay : okB c = false := by rw [hmayiff, decide_eq_true (p := 32 ≤ c.toNat) (by omega), decide_eq_false (by omega)]; rfl
                have r2' : (126 : Int) < (c.toNat : Int) := by omega
                clear hs hg hrange hmayiff r2
                have hR2 : R = (0, 2) := by rw [← HK.out.1]; exact ReadS.ut_syn HKB.out (by rw [HZK.out]; exact HQ.out) (.inl (by rw [HZK.out, HU8.out]; exact hmay))
                have HUk : Hid (U = (⟨#[]⟩, (0, 2))) := by show U = _; rw [HR.out, hR2]; rfl
                clear hR2 hmay
                go_wp2_with (first
                  | (go_at_call 35; (with_reducible refine (HSM.out _).mono ?_); rintro e w1 ⟨rfl, rfl⟩)
                  | (go_at_call 36; (with_reducible refine (HGR.out _).mono ?_); rintro e w1 ⟨rfl, rfl⟩))
                go_ret
                rw [HUk.out]
                exact ⟨rfl, H.out.step (modX _ _ _ _) (H.out.rd.fault (e := 2) (by decide) 0) (by intro h; cases h), modX _ _ _ _⟩
            · have hmay : okB c = false := by rw [hmayiff, decide_eq_false (by omega)]; rfl
              have r1' : (c.toNat : Int) < 32 := by omega
              clear hs hg hrange hmayiff r1
              have hR2 : R = (0, 2) := by rw [← HK.out.1]; exact ReadS.ut_syn HKB.out (by rw [HZK.out]; exact HQ.out) (.inl (by rw [HZK.out, HU8.out]; exact hmay))
              have HUk : Hid (U = (⟨#[]⟩, (0, 2))) := by show U = _; rw [HR.out, hR2]; rfl
              clear hR2 hmay
              go_wp2_with (first
                | (go_at_call 35; (with_reducible refine (HSM.out _).mono ?_); rintro e w1 ⟨rfl, rfl⟩)
                | (go_at_call 36; (with_reducible refine (HGR.out _).mono ?_); rintro e w1 ⟨rfl, rfl⟩))
              go_ret
              rw [HUk.out]
              exact ⟨rfl, H.out.step (modX _ _ _ _) (H.out.rd.fault (e := 2) (by decide) 0) (by intro h; cases h), modX _ _ _ _⟩
          · rw [hg] at HGR
            by_cases r1 : (32 : Int) ≤ (c.toNat : Int)
            · by_cases r2 : (c.toNat : Int) ≤ 126
              · have hmay : okB c = true := by rw [hmayiff, decide_eq_true (by omega), decide_eq_true (by omega)]; rfl
                clear hs hg hrange hmayiff
                have HMAY := Lib.hid hmay
                clear hmay
                by_cases h4 : 400 ≤ k - q
                · have h4' : (400 : Int) ≤ (k : Int) - (q : Int) := by omega
                  have hR2 : R = (0, 2) := by rw [← HK.out.1]; exact ReadS.ut_syn HKB.out (by rw [HZK.out]; exact HQ.out) (.inr h4)
                  have HUk : Hid (U = (⟨#[]⟩, (0, 2))) := by show U = _; rw [HR.out, hR2]; rfl
                  clear hR2 h4
                  go_wp2_with (first
                  | (go_at_call 35; (with_reducible refine (HSM.out _).mono ?_); rintro e w1 ⟨rfl, rfl⟩)
                  | (go_at_call 36; (with_reducible refine (HGR.out _).mono ?_); rintro e w1 ⟨rfl, rfl⟩))
                  go_ret
                  rw [HUk.out]
                  exact ⟨rfl, H.out.step (modX _ _ _ _) (H.out.rd.fault (e := 2) (by decide) 0) (by intro h; cases h), modX _ _ _ _⟩
                · have h4' : (k : Int) - (q : Int) < 400 := by omega
                  have HST := Lib.hid (show ReadS.ut b 13 okB q f (k + 1) = R by rw [← HK.out.1]; exact (ReadS.ut_step HKB.out (by rw [HZK.out]; exact HQ.out) (by rw [HZK.out, HU8.out]; exact HMAY.out) h4).symm)
                  clear h4
                  go_wp2_with (first
                  | (go_at_call 35; (with_reducible refine (HSM.out _).mono ?_); rintro e w1 ⟨rfl, rfl⟩)
                  | (go_at_call 36; (with_reducible refine (HGR.out _).mono ?_); rintro e w1 ⟨rfl, rfl⟩))
                  go_round
                  case rel => exact ⟨k + 1, f, by go_num, by omega, by omega, HST.out, by have := HK.out.2; omega⟩
                  case measure => simp [intOf]; omega
              · have hmay : okB c = false := by rw [hmayiff, decide_eq_true (p := 32 ≤ c.toNat) (by omega), decide_eq_false (by omega)]; rfl
                have r2' : (126 : Int) < (c.toNat : Int) := by omega
                clear hs hg hrange hmayiff r2
                have hR2 : R = (0, 2) := by rw [← HK.out.1]; exact ReadS.ut_syn HKB.out (by rw [HZK.out]; exact HQ.out) (.inl (by rw [HZK.out, HU8.out]; exact hmay))
                have HUk : Hid (U = (⟨#[]⟩, (0, 2))) := by show U = _; rw [HR.out, hR2]; rfl
                clear hR2 hmay
                go_wp2_with (first
                  | (go_at_call 35; (with_reducible refine (HSM.out _).mono ?_); rintro e w1 ⟨rfl, rfl⟩)
                  | (go_at_call 36; (with_reducible refine (HGR.out _).mono ?_); rintro e w1 ⟨rfl, rfl⟩))
                go_ret
                rw [HUk.out]
                exact ⟨rfl, H.out.step (modX _ _ _ _) (H.out.rd.fault (e := 2) (by decide) 0) (by intro h; cases h), modX _ _ _ _⟩
            · have hmay : okB c = false := by rw [hmayiff, decide_eq_false (by omega)]; rfl
              have r1' : (c.toNat : Int) < 32 := by omega
              clear hs hg hrange hmayiff r1
              have hR2 : R = (0, 2) := by rw [← HK.out.1]; exact ReadS.ut_syn HKB.out (by rw [HZK.out]; exact HQ.out) (.inl (by rw [HZK.out, HU8.out]; exact hmay))
              have HUk : Hid (U = (⟨#[]⟩, (0, 2))) := by show U = _; rw [HR.out, hR2]; rfl
              clear hR2 hmay
              go_wp2_with (first
                | (go_at_call 35; (with_reducible refine (HSM.out _).mono ?_); rintro e w1 ⟨rfl, rfl⟩)
                | (go_at_call 36; (with_reducible refine (HGR.out _).mono ?_); rintro e w1 ⟨rfl, rfl⟩))
              go_ret
              rw [HUk.out]
              exact ⟨rfl, H.out.step (modX _ _ _ _) (H.out.rd.fault (e := 2) (by decide) 0) (by intro h; cases h), modX _ _ _ _⟩
        · rw [hs] at HSM
          rcases hg : greatB c with _ | _
          · rw [hg] at HGR
            have hmay : okB c = true := by rw [hmayiff, decide_eq_true (hrange hs).1, decide_eq_true (hrange hs).2]; rfl
            clear hs hg hrange hmayiff
            have HMAY := Lib.hid hmay
            clear hmay
            by_cases h4 : 400 ≤ k - q
            · have h4' : (400 : Int) ≤ (k : Int) - (q : Int) := by omega
              have hR2 : R = (0, 2) := by rw [← HK.out.1]; exact ReadS.ut_syn HKB.out (by rw [HZK.out]; exact HQ.out) (.inr h4)
              have HUk : Hid (U = (⟨#[]⟩, (0, 2))) := by show U = _; rw [HR.out, hR2]; rfl
              clear hR2 h4
              go_wp2_with (first
              | (go_at_call 35; (with_reducible refine (HSM.out _).mono ?_); rintro e w1 ⟨rfl, rfl⟩)
              | (go_at_call 36; (with_reducible refine (HGR.out _).mono ?_); rintro e w1 ⟨rfl, rfl⟩))
              go_ret
              rw [HUk.out]
              exact ⟨rfl, H.out.step (modX _ _ _ _) (H.out.rd.fault (e := 2) (by decide) 0) (by intro h; cases h), modX _ _ _ _⟩
            · have h4' : (k : Int) - (q : Int) < 400 := by omega
              have HST := Lib.hid (show ReadS.ut b 13 okB q f (k + 1) = R by rw [← HK.out.1]; exact (ReadS.ut_step HKB.out (by rw [HZK.out]; exact HQ.out) (by rw [HZK.out, HU8.out]; exact HMAY.out) h4).symm)
              clear h4
              go_wp2_with (first
              | (go_at_call 35; (with_reducible refine (HSM.out _).mono ?_); rintro e w1 ⟨rfl, rfl⟩)
              | (go_at_call 36; (with_reducible refine (HGR.out _).mono ?_); rintro e w1 ⟨rfl, rfl⟩))
              go_round
              case rel => exact ⟨k + 1, f, by go_num, by omega, by omega, HST.out, by have := HK.out.2; omega⟩
              case measure => simp [intOf]; omega
          · rw [hg] at HGR
            have hmay : okB c = true := by rw [hmayiff, decide_eq_true (hrange hs).1, decide_eq_true (hrange hs).2]; rfl
            clear hs hg hrange hmayiff
            have HMAY := Lib.hid hmay
            clear hmay
            by_cases h4 : 400 ≤ k - q
            · have h4' : (400 : Int) ≤ (k : Int) - (q : Int) := by omega
              have hR2 : R = (0, 2) := by rw [← HK.out.1]; exact ReadS.ut_syn HKB.out (by rw [HZK.out]; exact HQ.out) (.inr h4)
              have HUk : Hid (U = (⟨#[]⟩, (0, 2))) := by show U = _; rw [HR.out, hR2]; rfl
              clear hR2 h4
              go_wp2_with (first
              | (go_at_call 35; (with_reducible refine (HSM.out _).mono ?_); rintro e w1 ⟨rfl, rfl⟩)
              | (go_at_call 36; (with_reducible refine (HGR.out _).mono ?_); rintro e w1 ⟨rfl, rfl⟩))
              go_ret
              rw [HUk.out]
              exact ⟨rfl, H.out.step (modX _ _ _ _) (H.out.rd.fault (e := 2) (by decide) 0) (by intro h; cases h), modX _ _ _ _⟩
            · have h4' : (k : Int) - (q : Int) < 400 := by omega
              have HST := Lib.hid (show ReadS.ut b 13 okB q f (k + 1) = R by rw [← HK.out.1]; exact (ReadS.ut_step HKB.out (by rw [HZK.out]; exact HQ.out) (by rw [HZK.out, HU8.out]; exact HMAY.out) h4).symm)
              clear h4
              go_wp2_with (first
              | (go_at_call 35; (with_reducible refine (HSM.out _).mono ?_); rintro e w1 ⟨rfl, rfl⟩)
              | (go_at_call 36; (with_reducible refine (HGR.out _).mono ?_); rintro e w1 ⟨rfl, rfl⟩))
              go_round
              case rel => exact ⟨k + 1, f, by go_num, by omega, by omega, HST.out, by have := HK.out.2; omega⟩
              case measure => simp [intOf]; omega
      · have hR2 : R = (0, 8) := by rw [← HK.out.1]; exact ReadS.ut_short (by rw [HL.out]; omega)
        have HUk : Hid (U = (⟨#[]⟩, (0, 8))) := by show U = _; rw [HR.out, hR2]; rfl
        clear hR2
        go_wp2
        go_ret
        rw [HUk.out]
        exact ⟨rfl, H.out.step (modX _ _ _ _) (H.out.rd.fault (e := 8) (by decide) 0) (by intro h; cases h), modX _ _ _ _⟩
  · have hx : ((e : Int) == 0) = false := beq_eq_false_iff_ne.2 (by omega)
    have E := Lib.hid h0
    clear h0 q3
    go_enter Tryd.func13, Tryd.ntmps13
    go_wp2
    go_ret
    have e : ReadS.utS b 13 okB (p, e) = (⟨#[]⟩, (p, e)) := if_neg E.out
    rw [e]
    exact ⟨rfl, H.out, Mod.refl _ _⟩

end Go.Proofs.YtkohbbnnjakhjaaDoor.ReadL
