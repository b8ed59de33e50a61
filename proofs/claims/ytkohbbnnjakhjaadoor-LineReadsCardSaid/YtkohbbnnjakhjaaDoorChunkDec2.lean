/-
  chunk.Decode over this seat's translation.
  Conditions: none but where the bytes lie.
-/
import Derived.Test.YtkohbbnnjakhjaaDoorChunkDec
namespace Go.Proofs.YtkohbbnnjakhjaaDoor.ChunkD
open Go.RowKit BA SlicesB
set_option linter.unusedVariables false
set_option linter.unusedSimpArgs false

theorem own_below {w w' : World} {B : Nat} {v : Value} {l : List Int} (h : BytesL.Own w B v l) (hB : Below w.heap.size w w') : BytesL.Own w' B v l := BytesL.Own.below h hB
theorem row_form {w : World} {B : Nat} {v : Value} {l : List Int} (h : BytesL.Own w B v l) : ∃ a c, v = .slice a l.length c := by
  obtain ⟨a, c, e, _⟩ := h.slice
  exact ⟨a, c, e⟩
set_option maxRecDepth 100000 in
set_option maxHeartbeats 4000000 in
theorem decode_any (a : Option Addr) (cap : Nat) (b : List Int) (w : World) (hb : BytesAt w (.slice a b.length cap) b) (hz : ∀ z ∈ b, 0 ≤ z ∧ z ≤ 255) :
    Calls Tryd.prog 31 #[.slice a b.length cap] w fun e w' => Below w.heap.size w w' ∧
      (((dec b (b.length + 1) 0 []).2.2 = 0 ∧ ∃ a1 c1, e = .returned (.tuple #[.slice a1 (dec b (b.length + 1) 0 []).1.length c1, .int .i64 (dec b (b.length + 1) 0 []).2.1, .nilIface]) ∧ BytesL.Own w' w.heap.size (.slice a1 (dec b (b.length + 1) 0 []).1.length c1) (dec b (b.length + 1) 0 []).1) ∨
       ((dec b (b.length + 1) 0 []).2.2 ≠ 0 ∧ e = .returned (.tuple #[.slice none 0 0, .int .i64 0, .iface 63 (.int .i64 (dec b (b.length + 1) 0 []).2.2)]))) := by
  obtain ⟨a0, c0, e0, hc1, hc2, hnil, _⟩ := hb.open
  simp only [Value.slice.injEq] at e0
  obtain ⟨rfl, _, rfl⟩ := e0
  obtain ⟨R, hR⟩ : ∃ R, dec b (b.length + 1) 0 [] = R := ⟨_, rfl⟩
  rw [hR]
  have HR := Lib.hid hR
  have HBT := Lib.hid hb
  have HZ := Lib.hid hz
  obtain ⟨L, hL⟩ : ∃ L, b.length = L := ⟨_, rfl⟩
  rw [hL] at hc1 ⊢
  have HL := Lib.hid hL
  have HNIL := Lib.hid hnil
  clear hR hz hb hL hnil
  go_enter Tryd.func31, Tryd.ntmps31
  go_wp2
  go_loopw [2, 5] (fun bv av wr => ∃ (p f : Nat) (body : List Int) (ab : Option Addr) (cb : Nat), av = .int .i64 p ∧ bv = .slice ab body.length cb ∧ Below w.heap.size w wr ∧ Hid (BytesL.Own wr w.heap.size (.slice ab body.length cb) body) ∧ body.length ≤ 8000 ∧ p ≤ 9 * body.length ∧ p ≤ L ∧ Hid (dec b f p body = R ∧ b.length < p + f)) (fun _ av _ => L + 1 - (intOf av).toNat)
  case atStart => exact ⟨0, b.length + 1, [], none, 0, rfl, rfl, Below.refl _ _, BytesL.Own.nil _ _, by simp, by simp, Nat.zero_le _, HR.out, by omega⟩
  case round =>
    obtain ⟨p, f, body, ab, cb, rfl, rfl, hB, HO, hbl, hp9, hpL, HK⟩ := hrel
    have HB := Lib.hid hB
    have hszj := hB.size
    have HBr := Lib.hid (HBT.out.below hB)
    clear hB
    have HRr := HK.out.1
    have HKf := Lib.hid HK.out.2
    obtain ⟨f, rfl⟩ : ∃ f', f = f' + 1 := ⟨f - 1, by have := HKf.out; have := HL.out; omega⟩
    obtain ⟨bl, hbl'⟩ : ∃ bl, body.length = bl := ⟨_, rfl⟩
    obtain ⟨⟨n, q, e⟩, hnum⟩ : ∃ r, num b p (8000 - body.length) (b.length + 1) p 0 = r := ⟨_, rfl⟩
    have hN := number_any a cap p (8000 - body.length) b wr HBr.out HZ.out ⟨by omega, by rw [HL.out]; exact hpL⟩ (by omega)
    have hNO := num_ok (b := b) (st := p) (most := 8000 - body.length) (by omega) (b.length + 1) p 0 (.inl ⟨rfl, rfl⟩) (Nat.zero_le _) (Nat.le_refl _)
    rw [hnum] at hN hNO
    have hcast : ((8000 - bl : Nat) : Int) = 8000 - (bl : Int) := by omega
    rw [hbl', HL.out, hcast] at hN
    rw [hbl', HL.out] at hNO
    have HBL := Lib.hid hbl'
    have HNUM := Lib.hid hnum
    rw [hbl'] at hbl hp9 HO ⊢
    clear hbl' hnum hcast
    by_cases he : e = 0
    · subst he
      have hN2 := hN.mono (R' := fun ee w' => ee = .returned (.tuple #[.int .i64 n, .int .i64 q, .nilIface]) ∧ wr = w') (by
        rintro ee w' ⟨rfl, ⟨_, rfl⟩ | ⟨h, _⟩⟩
        · exact ⟨rfl, rfl⟩
        · exact absurd rfl h)
      have hNO := hNO rfl
      simp only at hNO
      clear hN
      obtain ⟨⟨m, e1⟩, hmt⟩ : ∃ r, mt b [13, 10] q = r := ⟨_, rfl⟩
      have hM := fun w1 (hB1 : Below w.heap.size w w1) => match_any a cap q b w1 (HBT.out.below hB1) HZ.out (by omega)
      rw [hmt, HL.out] at hM
      by_cases he1 : e1 = 0
      · subst he1
        have hM2 := fun w1 hB1 => (hM w1 hB1).mono (R' := fun ee w' => ee = .returned (.tuple #[.int .i64 m, .nilIface]) ∧ Below w1.heap.size w1 w') (by
          rintro ee w' ⟨hBB, ⟨_, rfl⟩ | ⟨h, _⟩⟩
          · exact ⟨rfl, hBB⟩
          · exact absurd rfl h)
        clear hM
        have hmok := mt_ok (b := b) [13, 10] q (by rw [hmt])
        rw [hmt, HL.out] at hmok
        simp only [List.length_cons, List.length_nil] at hmok
        have hmL := hmok.2 (by simp)
        have hmq : m = q + 2 := hmok.1
        obtain ⟨⟨m2, e2⟩, hmt2⟩ : ∃ r, mt b [13, 10] (m + n) = r := ⟨_, rfl⟩
        have hM3 := fun w1 (hB1 : Below w.heap.size w w1) => match_any a cap (m + n) b w1 (HBT.out.below hB1) HZ.out (by omega)
        rw [hmt2, HL.out] at hM3
        have HMT := Lib.hid hmt
        have HMT2 := Lib.hid hmt2
        clear hmt hmt2
        obtain ⟨a3, c3, e3, _, _, _, hel⟩ := HBr.out.open
        simp only [Value.slice.injEq] at e3
        obtain ⟨rfl, _, rfl⟩ := e3
        obtain ⟨bb, off, rfl, hbb, _⟩ := hel 0 (by rw [HL.out]; omega)
        clear hel
        subst hmq
        obtain ⟨X, hX⟩ : ∃ X, min L (q + 2 + n) = X := ⟨_, rfl⟩
        have hmin : min (L : Int) ((q : Int) + 2 + (n : Int)) = (X : Int) := by omega
        have hX1 : q + 2 ≤ X := by omega
        have hX2 : X ≤ L := by omega
        have hX3 : X ≤ q + 2 + n := by omega
        have hi1 : (q : Int) + 2 ≤ (X : Int) := by omega
        have hi2 : (X : Int) ≤ (cap : Int) := by omega
        have HX := Lib.hid hX
        have hle : body.length + ((b.drop (q + 2)).take (X - (q + 2))).length < 140737488355328 := by rw [HBL.out, List.length_take]; omega
        have HLE := Lib.hid hle
        obtain ⟨B2, hBE⟩ : ∃ B2, body ++ (b.drop (q + 2)).take (X - (q + 2)) = B2 := ⟨_, rfl⟩
        have HBL2 : Hid (B2.length = bl + (X - (q + 2))) := (by show B2.length = bl + (X - (q + 2)); rw [← hBE, List.length_append, HBL.out, List.length_take, List.length_drop, HL.out, Nat.min_eq_left (by omega)])
        have HBE := Lib.hid hBE
        clear hBE hle
        have HOW := Lib.hid (fun w1 (hB1 : Below wr.heap.size wr w1) => own_below (HO.out) hB1)
        have hcast2 : ((q + 2 + n : Nat) : Int) = (q : Int) + 2 + (n : Int) := by omega
        rw [hcast2] at hM3
        have h3 : (e2 ≠ 0 ∧ ∀ w1, Below w.heap.size w w1 → Calls Tryd.prog 41 #[.slice (some ⟨bb, off, none⟩) L cap, .int .i64 ((q : Int) + 2 + (n : Int)), .string ⟨#[13, 10]⟩] w1 fun ee w' => ee = .returned (.tuple #[.int .i64 0, .iface 63 (.int .i64 e2)]) ∧ Below w1.heap.size w1 w') ∨
            (e2 = 0 ∧ n = 0 ∧ Hid (m2 = q + 2 + n + 2 ∧ m2 ≤ L) ∧ ∀ w1, Below w.heap.size w w1 → Calls Tryd.prog 41 #[.slice (some ⟨bb, off, none⟩) L cap, .int .i64 ((q : Int) + 2 + (n : Int)), .string ⟨#[13, 10]⟩] w1 fun ee w' => ee = .returned (.tuple #[.int .i64 m2, .nilIface]) ∧ Below w1.heap.size w1 w') ∨
            (e2 = 0 ∧ n ≠ 0 ∧ Hid (m2 = q + 2 + n + 2 ∧ m2 ≤ L) ∧ ∀ w1, Below w.heap.size w w1 → Calls Tryd.prog 41 #[.slice (some ⟨bb, off, none⟩) L cap, .int .i64 ((q : Int) + 2 + (n : Int)), .string ⟨#[13, 10]⟩] w1 fun ee w' => ee = .returned (.tuple #[.int .i64 m2, .nilIface]) ∧ Below w1.heap.size w1 w') := by
          by_cases he2 : e2 = 0
          · have hh : ∀ w1, Below w.heap.size w w1 → Calls Tryd.prog 41 #[.slice (some ⟨bb, off, none⟩) L cap, .int .i64 ((q : Int) + 2 + (n : Int)), .string ⟨#[13, 10]⟩] w1 fun ee w' => ee = .returned (.tuple #[.int .i64 m2, .nilIface]) ∧ Below w1.heap.size w1 w' := fun w1 hB1 => (hM3 w1 hB1).mono (by
              rintro ee w' ⟨hBB, ⟨_, rfl⟩ | ⟨h, _⟩⟩
              · exact ⟨rfl, hBB⟩
              · exact absurd he2 h)
            have hk := mt_ok (b := b) [13, 10] (q + 2 + n) (by rw [HMT2.out]; exact he2)
            rw [HMT2.out, HL.out] at hk
            by_cases hn : n = 0
            · exact .inr (.inl ⟨he2, hn, ⟨hk.1, by have h1 := hk.1; have h2 := hk.2 (by simp); simp only [List.length_cons, List.length_nil] at h1 h2; omega⟩, hh⟩)
            · exact .inr (.inr ⟨he2, hn, ⟨hk.1, by have h1 := hk.1; have h2 := hk.2 (by simp); simp only [List.length_cons, List.length_nil] at h1 h2; omega⟩, hh⟩)
          · exact .inl ⟨he2, fun w1 hB1 => (hM3 w1 hB1).mono (by
              rintro ee w' ⟨hBB, ⟨h, _⟩ | ⟨_, rfl⟩⟩
              · exact absurd h he2
              · exact ⟨rfl, hBB⟩)⟩
        clear HNIL hX hM3 hcast2 HO
        by_cases hcap : cap = q + 2
        · obtain rfl : X = q + 2 := by omega
          subst hcap
          have HY := Lib.hid (fun w1 (hB1 : Below w.heap.size w w1) => (show BytesAt w1 (.slice (some ⟨bb, off, none⟩) 0 (q + 2 - (q + 2))) ((b.drop (q + 2)).take (q + 2 - (q + 2))) by
            rw [Nat.sub_self, List.take_zero]
            exact ⟨some ⟨bb, off, none⟩, 0, rfl, by simp [BytesL.valB], by simp, by simp, by simp [BytesL.valB]⟩))
          clear HBT
          rcases h3 with ⟨he2, hm3⟩ | ⟨rfl, rfl, HM2L, hm3⟩ | ⟨rfl, hn0, HM2L, hm3⟩
          · rw [dec_mt2 HNUM.out HMT.out HMT2.out he2] at HRr
            have HH := Lib.hid HRr
            have HE := Lib.hid he2
            clear HRr HK he2
            go_wp2_with (first
                        | (go_at_call 49; (with_reducible refine hN2.mono ?_); rintro e w1 ⟨rfl, rfl⟩)
                        | (go_at_call 41; (with_reducible refine (hM2 _ HB.out).mono ?_); rintro e w1 ⟨rfl, hB1⟩; have hsz1 := hB1.size; have HYY := Lib.hid (HY.out w1 (HB.out.trans (hB1.mono hszj))); have HOw := Lib.hid (HOW.out w1 hB1))
                        | (at_builtin; refine wpList_append_bytes rfl _ _ rfl w.heap.size _ _ rfl HOw.out _ _ rfl HYY.out HLE.out (by omega) ?_; intro v2 w2 hown2 hB2 hg2 hat2; clear hg2 hat2; have hBall := (HB.out.trans (hB1.mono hszj)).trans hB2; have hsz2 := hB2.size; have HO3 : Hid (BytesL.Own w2 w.heap.size v2 B2) := (by have h := hown2; rw [HBE.out] at h; exact h); clear hown2; obtain ⟨a4, c4, rfl⟩ := row_form HO3.out)
                        | (go_at_call 41; (with_reducible refine (hm3 _ hBall).mono ?_); rintro e w3 ⟨rfl, hB3⟩))
            go_ret3
            exact ⟨hBall.trans (hB3.mono (by omega)), .inr (by rw [← HH.out]; exact ⟨HE.out, rfl⟩)⟩
          · exact absurd HM2L.out (by omega)
          · exact absurd HM2L.out (by omega)
        · have hcl : ¬ (cap ≤ q + 2) := by omega
          have HY := Lib.hid (fun w1 (hB1 : Below w.heap.size w w1) => bytesAt_take (bytesAt_drop (by have h := HBT.out.below hB1; rw [HL.out] at h; exact (show BytesAt w1 (.slice (some ⟨bb, off, none⟩) L cap) b from h)) (q + 2) (by rw [HL.out]; omega)) (X - (q + 2)) (by rw [List.length_drop, HL.out]; omega))
          clear HBT
          rcases h3 with ⟨he2, hm3⟩ | ⟨rfl, rfl, HM2L, hm3⟩ | ⟨rfl, hn0, HM2L, hm3⟩
          · rw [dec_mt2 HNUM.out HMT.out HMT2.out he2] at HRr
            have HH := Lib.hid HRr
            have HE := Lib.hid he2
            clear HRr HK he2
            go_wp2_with (first
                        | (go_at_call 49; (with_reducible refine hN2.mono ?_); rintro e w1 ⟨rfl, rfl⟩)
                        | (go_at_call 41; (with_reducible refine (hM2 _ HB.out).mono ?_); rintro e w1 ⟨rfl, hB1⟩; have hsz1 := hB1.size; have HYY := Lib.hid (HY.out w1 (HB.out.trans (hB1.mono hszj))); have HOw := Lib.hid (HOW.out w1 hB1))
                        | (at_builtin; refine wpList_append_bytes rfl _ _ rfl w.heap.size _ _ rfl HOw.out _ _ rfl HYY.out HLE.out (by omega) ?_; intro v2 w2 hown2 hB2 hg2 hat2; clear hg2 hat2; have hBall := (HB.out.trans (hB1.mono hszj)).trans hB2; have hsz2 := hB2.size; have HO3 : Hid (BytesL.Own w2 w.heap.size v2 B2) := (by have h := hown2; rw [HBE.out] at h; exact h); clear hown2; obtain ⟨a4, c4, rfl⟩ := row_form HO3.out)
                        | (go_at_call 41; (with_reducible refine (hm3 _ hBall).mono ?_); rintro e w3 ⟨rfl, hB3⟩))
            go_ret3
            exact ⟨hBall.trans (hB3.mono (by omega)), .inr (by rw [← HH.out]; exact ⟨HE.out, rfl⟩)⟩
          · rw [dec_end HNUM.out HMT.out HMT2.out] at HRr
            have HH := Lib.hid HRr
            rw [show ((q : Int) + 2 + ((0 : Nat) : Int)) = (q : Int) + 2 by omega] at hm3 hmin
            obtain rfl : B2 = body := by have h := HBE.out; rw [show X - (q + 2) = 0 by omega, List.take_zero, List.append_nil] at h; exact h.symm
            clear HRr HK
            go_wp2_with (first
                        | (go_at_call 49; (with_reducible refine hN2.mono ?_); rintro e w1 ⟨rfl, rfl⟩)
                        | (go_at_call 41; (with_reducible refine (hM2 _ HB.out).mono ?_); rintro e w1 ⟨rfl, hB1⟩; have hsz1 := hB1.size; have HYY := Lib.hid (HY.out w1 (HB.out.trans (hB1.mono hszj))); have HOw := Lib.hid (HOW.out w1 hB1))
                        | (at_builtin; refine wpList_append_bytes rfl _ _ rfl w.heap.size _ _ rfl HOw.out _ _ rfl HYY.out HLE.out (by omega) ?_; intro v2 w2 hown2 hB2 hg2 hat2; clear hg2 hat2; have hBall := (HB.out.trans (hB1.mono hszj)).trans hB2; have hsz2 := hB2.size; have HO3 : Hid (BytesL.Own w2 w.heap.size v2 B2) := (by have h := hown2; rw [HBE.out] at h; exact h); clear hown2; obtain ⟨a4, c4, rfl⟩ := row_form HO3.out)
                        | (go_at_call 41; (with_reducible refine (hm3 _ hBall).mono ?_); rintro e w3 ⟨rfl, hB3⟩))
            go_ret3
            exact ⟨hBall.trans (hB3.mono (by omega)), .inl (by rw [← HH.out]; exact ⟨rfl, a4, c4, rfl, own_below HO3.out hB3⟩)⟩
          · have hbe := HBE.out
            rw [show X - (q + 2) = n by have := HM2L.out; omega] at hbe
            rw [dec_step HNUM.out HMT.out HMT2.out hn0, hbe] at HRr
            have HH := Lib.hid HRr
            have hn1 : ¬ ((n : Int) = 0) := by omega
            clear HRr HK hbe
            go_wp2_with (first
                        | (go_at_call 49; (with_reducible refine hN2.mono ?_); rintro e w1 ⟨rfl, rfl⟩)
                        | (go_at_call 41; (with_reducible refine (hM2 _ HB.out).mono ?_); rintro e w1 ⟨rfl, hB1⟩; have hsz1 := hB1.size; have HYY := Lib.hid (HY.out w1 (HB.out.trans (hB1.mono hszj))); have HOw := Lib.hid (HOW.out w1 hB1))
                        | (at_builtin; refine wpList_append_bytes rfl _ _ rfl w.heap.size _ _ rfl HOw.out _ _ rfl HYY.out HLE.out (by omega) ?_; intro v2 w2 hown2 hB2 hg2 hat2; clear hg2 hat2; have hBall := (HB.out.trans (hB1.mono hszj)).trans hB2; have hsz2 := hB2.size; have HO3 : Hid (BytesL.Own w2 w.heap.size v2 B2) := (by have h := hown2; rw [HBE.out] at h; exact h); clear hown2; obtain ⟨a4, c4, rfl⟩ := row_form HO3.out)
                        | (go_at_call 41; (with_reducible refine (hm3 _ hBall).mono ?_); rintro e w3 ⟨rfl, hB3⟩))
            have hk := HM2L.out
            have hk2 := HBL2.out
            go_roundw
            case rel => exact ⟨m2, f, B2, a4, c4, rfl, rfl, hBall.trans (hB3.mono (by omega)), own_below HO3.out hB3, by omega, by omega, by omega, HH.out, by have := HKf.out; omega⟩
            case measure => simp [intOf]; omega
      · have hM2 := fun w1 hB1 => (hM w1 hB1).mono (R' := fun ee w' => ee = .returned (.tuple #[.int .i64 0, .iface 63 (.int .i64 e1)]) ∧ Below w1.heap.size w1 w') (by
          rintro ee w' ⟨hBB, ⟨h, _⟩ | ⟨_, rfl⟩⟩
          · exact absurd h he1
          · exact ⟨rfl, hBB⟩)
        rw [dec_mt HNUM.out hmt he1] at HRr
        have HH := Lib.hid HRr
        have HE := Lib.hid he1
        clear hM hmt HRr HK he1 hNO HBT
        go_wp2_with (first
          | (go_at_call 49; (with_reducible refine hN2.mono ?_); rintro e w1 ⟨rfl, rfl⟩)
          | (go_at_call 41; (with_reducible refine (hM2 _ HB.out).mono ?_); rintro e w1 ⟨rfl, hB1⟩))
        go_ret3
        exact ⟨HB.out.trans (hB1.mono hszj), .inr (by rw [← HH.out]; exact ⟨HE.out, rfl⟩)⟩
    · have hN2 := hN.mono (R' := fun ee w' => ee = .returned (.tuple #[.int .i64 0, .int .i64 0, .iface 63 (.int .i64 e)]) ∧ wr = w') (by
        rintro ee w' ⟨rfl, ⟨h, _⟩ | ⟨_, rfl⟩⟩
        · exact absurd h he
        · exact ⟨rfl, rfl⟩)
      rw [dec_num HNUM.out he] at HRr
      have HH := Lib.hid HRr
      have HE := Lib.hid he
      clear hN HRr HK he hNO
      go_wp2_with (go_at_call 49; (with_reducible refine hN2.mono ?_); rintro e w1 ⟨rfl, rfl⟩)
      go_ret3
      exact ⟨HB.out, .inr (by rw [← HH.out]; exact ⟨HE.out, rfl⟩)⟩
end Go.Proofs.YtkohbbnnjakhjaaDoor.ChunkD
