/-
  The reference's limit: Left.
  Conditions: where its blocks lie; the bounds.
-/
import Derived.Test.YtfgplghjgjnggaaDoorLimRefC
namespace Go.Proofs.YtfgplghjgjnggaaDoor.LimR
open Go.RowKit MapsL ModL RowsK RowsM LimitC
set_option linter.unusedSimpArgs false
set_option linter.unusedVariables false

theorem wait_spec {rate lf n : Int} (hr : 1 ≤ rate) (j : Nat) : lf + (j : Int) * rate < n ↔ (j : Int) < waitF rate lf n := by
  unfold waitF
  by_cases h : 0 ≤ n - lf + rate - 1
  · rw [Int.tdiv_eq_ediv_of_nonneg h]
    have h0 : 0 ≤ (n - lf + rate - 1) / rate := Int.ediv_nonneg h (by omega)
    have e : max 0 ((n - lf + rate - 1) / rate) = (n - lf + rate - 1) / rate := by omega
    rw [e]
    have h1 : (j : Int) + 1 ≤ (n - lf + rate - 1) / rate ↔ ((j : Int) + 1) * rate ≤ n - lf + rate - 1 := Int.le_ediv_iff_mul_le (by omega)
    rw [Int.add_mul, Int.one_mul] at h1
    constructor
    · intro h2; have := h1.2 (by omega); omega
    · intro h2; have := h1.1 (by omega); omega
  · have h0 : (n - lf + rate - 1).tdiv rate ≤ 0 := by
      have e : (n - lf + rate - 1) = -(-(n - lf + rate - 1)) := by omega
      rw [e, Int.neg_tdiv]
      have := Int.tdiv_nonneg (a := -(n - lf + rate - 1)) (b := rate) (by omega) (by omega)
      omega
    have h2 : 0 ≤ (j : Int) * rate := Int.mul_nonneg (by omega) (by omega)
    constructor
    · intro h3; omega
    · intro h3; omega
theorem wait_le {rate lf n : Int} (hr : 1 ≤ rate) (h0 : 0 ≤ lf) (h1 : n ≤ 1000000) (hn : 1 ≤ n) : 0 ≤ waitF rate lf n ∧ waitF rate lf n ≤ 1000000 := by
  have h := wait_spec (lf := lf) (n := n) hr 1000000
  have hp : (1000000 : Int) ≤ ((1000000 : Nat) : Int) * rate := by
    have := Int.mul_le_mul_of_nonneg_left hr (show (0 : Int) ≤ ((1000000 : Nat) : Int) by omega)
    omega
  refine ⟨by unfold waitF; omega, ?_⟩
  rcases Int.lt_or_le ((1000000 : Nat) : Int) (waitF rate lf n) with h2 | h2
  · have := h.2 h2; omega
  · omega
theorem wait_one {lf n : Int} (h : lf < n) : waitF 1 lf n = n - lf := by
  unfold waitF
  rw [Int.tdiv_one]; omega
theorem fine_see {burst now : Int} {l : List Ent} {k : List UInt8} (hf : Fine burst now l) (hn : 0 ≤ now ∧ now ≤ 1000000) (hs : seenF l k ≤ now) : Fine burst now (seeL l k now) := by
  unfold seeL
  cases hfk : findK l k with
  | none => exact hf
  | some x =>
    intro e he
    rcases upsert_mem he with rfl | he
    · have h1 := hf x (findK_some hfk).1
      have h2 : x.seen ≤ now := by unfold seenF at hs; rw [hfk] at hs; exact hs
      exact ⟨h1.1, h1.2.1, h1.2.2.1, by show x.at_ ≤ now; omega, hn.2⟩
    · exact hf e he
theorem rLeft_bad {w : World} {q : Nat} {rate burst : Int} {v : Value} {l : List Ent} (h : RefB w q rate burst v l) (k : List UInt8) (now n : Int) (hz : checkE burst l k now n ≠ 0) :
    Calls Tryd.prog 21 #[.pointer (some ⟨q, 0, none⟩), .string (str k), .int .i64 now, .int .i64 n] w fun e w' => e = .returned (.tuple #[.int .i64 0, .int .i64 0, .int .i64 (checkE burst l k now n)]) ∧ w = w' := by
  have HC := rcheck_any h k now n
  obtain ⟨c, hc⟩ : ∃ c, checkE burst l k now n = c := ⟨_, rfl⟩
  rw [hc] at HC hz ⊢
  have HC := Lib.hid HC
  clear h hc
  go_enter Tryd.func21, Tryd.ntmps21
  go_wp2_with (go_at_call 32; (with_reducible refine HC.out.mono ?_); rintro e w1 ⟨rfl, rfl⟩)
  go_ret3
  exact ⟨rfl, rfl⟩
set_option maxRecDepth 100000 in
set_option maxHeartbeats 4000000 in
theorem rLeft_ok {w : World} {q : Nat} {rate burst : Int} {v : Value} {l : List Ent} (h : RefB w q rate burst v l) (k : List UInt8) (now n : Int) (hr : 1 ≤ rate ∧ rate ≤ 1000000) (hb : 1 ≤ burst ∧ burst ≤ 1000000) (hf : Fine burst now l) (hU : l.Pairwise fun x y => x.key ≠ y.key) (hz : checkE burst l k now n = 0) :
    Calls Tryd.prog 21 #[.pointer (some ⟨q, 0, none⟩), .string (str k), .int .i64 now, .int .i64 n] w fun e w' => e = .returned (.tuple #[.int .i64 (leftF rate burst l k now), .int .i64 (waitF rate (leftF rate burst l k now) n), .int .i64 0]) ∧ RefB w' q rate burst v (seeL l k now) ∧ Mod (fun b => v.ownBlock = some b) w w' := by
  have hcz := check_zero hz
  have HA := Lib.hid (rat_any h k)
  have HC := rcheck_any h k now n
  rw [hz] at HC
  have HC := Lib.hid HC
  have HR := Lib.hid h
  have hfs := fine_see hf ⟨hcz.2.2.1, hcz.2.2.2.1⟩ hcz.2.2.2.2
  have hss := seenF_see l k now hcz.2.2.1
  have hlfb : 0 ≤ leftF rate burst l k now ∧ leftF rate burst l k now ≤ burst := by
    unfold leftF
    cases hfk : findK l k with
    | none => simp only; omega
    | some x =>
      have h1 := hf x (findK_some hfk).1
      have h2 : x.seen ≤ now := by have := hcz.2.2.2.2; unfold seenF at this; rw [hfk] at this; exact this
      have h3 : 0 ≤ rate * (now - x.at_) := Int.mul_nonneg (by omega) (by omega)
      simp only; omega
  have HLF := fun W v' (hW : RefB W q rate burst v' (seeL l k now)) => rleft_any hW k now hr hb hfs ⟨hcz.2.2.1, hcz.2.2.2.1⟩ hss
  rw [leftF_see] at HLF
  obtain ⟨lf, hlf⟩ : ∃ lf, leftF rate burst l k now = lf := ⟨_, rfl⟩
  rw [hlf] at HLF hlfb ⊢
  have HLF := Lib.hid HLF
  obtain ⟨k1, k2, k3, k4, _⟩ := hcz
  have hwl := wait_le (lf := lf) (n := n) hr.1 hlfb.1 (by omega) k1
  have hws : ∀ j : Nat, lf + (j : Int) * rate < n ↔ (j : Int) < waitF rate lf n := fun j => wait_spec hr.1 j
  have hw1 : rate = 1 → lf < n → waitF rate lf n = n - lf := fun e hh => by subst e; exact wait_one hh
  obtain ⟨WF, hWF⟩ : ∃ WF, waitF rate lf n = WF := ⟨_, rfl⟩
  rw [hWF] at hwl hws hw1 ⊢
  have HWS := Lib.hid hws
  have HW1 := Lib.hid hw1
  obtain ⟨hr1, hr2⟩ := hr
  obtain ⟨lf1, lf2⟩ := hlfb
  obtain ⟨wf1, wf2⟩ := hwl
  have HU := Lib.hid hU
  clear hf hfs hss hlf hWF hws hw1 hz hU
  cases hfk : findK l k with
  | none =>
    have hsee : seeL l k now = l := by unfold seeL; rw [hfk]
    rw [hsee] at HLF ⊢
    have HF := Lib.hid hfk
    have hc0 := h.c0
    clear h hfk hsee
    go_enter Tryd.func21, Tryd.ntmps21
    go_wp2_with (first
      | (go_at_call 32; (with_reducible refine HC.out.mono ?_); rintro e w1 ⟨rfl, rfl⟩)
      | (go_at_call 33; (with_reducible refine HA.out.mono ?_); rintro e w1 ⟨rfl, ⟨rfl, hno⟩ | ⟨m, rfl, y, hm, hy⟩⟩; rotate_left; exact absurd (HF.out.symm.trans hy) (by simp); clear hno)
      | (go_at_call 34; (with_reducible refine (HLF.out _ _ HR.out).mono ?_); rintro e w2 ⟨rfl, nq, hw2⟩; have hcr : w2.cell? ⟨q, 0, none⟩ = some (.int .i64 rate) := (by rw [← hw2]; exact hc0); have HW2 := Lib.hid hw2; clear hw2))
    go_loop [14] (fun iv => ∃ j : Nat, iv = .int .i64 j ∧ (j : Int) ≤ WF) (fun iv => (WF - intOf iv).toNat)
    case atStart => exact ⟨0, rfl, by omega⟩
    case round =>
      obtain ⟨j, rfl, hj⟩ := hrel
      have hw := HWS.out j
      have hpr0 : 0 ≤ (j : Int) * rate := Int.mul_nonneg (by omega) (by omega)
      have hpr1 : (j : Int) * rate ≤ 1000000000000 := by
        have h1 := Int.mul_le_mul (show (j : Int) ≤ 1000000 by omega) hr2 (by omega) (by omega : (0 : Int) ≤ 1000000)
        omega
      by_cases hlt : (j : Int) < WF
      · have h1 : lf + (j : Int) * rate < n := hw.2 hlt
        have h2 : (j : Int) < 2000000 := by omega
        by_cases hone : rate = 1
        · have hone2 := HW1.out hone (by rw [hone] at h1; omega)
          subst hone
          rw [Int.mul_one] at h1 hpr0 hpr1
          clear hw
          go_wp2
          go_round
          case rel => exact ⟨WF.toNat, congrArg (Value.int .i64) (by omega), by omega⟩
          case measure => simp [intOf]; omega
        · have hob : (rate == 1) = false := by simpa using hone
          clear hw hone
          go_wp2
          exact ⟨⟨j + 1, congrArg (Value.int .i64) (by omega), by omega⟩, by simp [intOf]; omega⟩
      · have h1 : ¬ lf + (j : Int) * rate < n := fun h => hlt (hw.1 h)
        obtain rfl : WF = (j : Int) := by omega
        clear hw
        go_wp2
        go_ret3
        exact ⟨rfl, by rw [← HW2.out]; exact HR.out.heap rfl, by rw [← HW2.out]; exact ⟨rfl, rfl, rfl, Nat.le_refl _, fun _ _ _ => rfl⟩⟩
  | some x =>
    obtain ⟨n0, hn0⟩ : ∃ n0 : Nat, l[n0]? = some x := by
      obtain ⟨i, hi, e⟩ := List.getElem_of_mem (findK_some hfk).1
      exact ⟨i, by rw [List.getElem?_eq_getElem hi, e]⟩
    have hsee : ∀ m : Nat, l[m]? = some x → seeL l k now = l.set m { x with seen := now } := fun m hm => by
      unfold seeL; rw [hfk]
      exact upsert_some HU.out hm rfl
    have hc2 := h.c2
    have hc0 := h.c0
    obtain ⟨g, cap, rfl, hg1, hg2, _, hent⟩ := h.entry hn0
    have HEN := Lib.hid hent
    have HF := Lib.hid hfk
    have HSE := Lib.hid hsee
    clear h hfk hn0 hent hsee
    go_enter Tryd.func21, Tryd.ntmps21
    go_upto_region 7 with (first
      | (go_at_call 32; (with_reducible refine HC.out.mono ?_); rintro e w1 ⟨rfl, rfl⟩)
      | (go_at_call 33; (with_reducible refine HA.out.mono ?_); rintro e w1 ⟨rfl, ⟨rfl, hno⟩ | ⟨m, rfl, y, hm, hy⟩⟩; exact absurd (HF.out.symm.trans hno) (by simp); obtain rfl := Option.some.inj (HF.out.symm.trans hy); have HM := Lib.hid hm; have hml := (List.getElem?_eq_some_iff.1 hm).1; have hmL : (m : Int) < (l.length : Int) := (by omega); have hm0 : (0 : Int) ≤ (m : Int) := (by omega); have hm00 : ¬ (m : Int) < 0 := (by omega); have hz3 := (HEN.out m x hm).2.2.2; have hf3 := own_frozen HR.out.own (m * 4 + 3); clear hm hy))
    have HR2 : Hid (RefB (w.setCell ⟨g, m * 4 + 3, none⟩ (.int .i64 now)) q rate burst (.slice (some ⟨g, 0, none⟩) l.length cap) (seeL l k now)) := (by
      obtain ⟨hml2, hme⟩ := List.getElem?_eq_some_iff.1 HM.out
      rw [HSE.out m HM.out]
      exact HR.out.cell (m * 4 + 3) _ (by simp) (flat_set E l m 3 _ _ hml2 (by rw [hme]; rfl) (by decide)))
    have hc5 := HR2.out.c0
    have HMs : Hid (Mod (fun b => some g = some b) w (w.setCell ⟨g, m * 4 + 3, none⟩ (.int .i64 now))) := (Mod.refl (fun b => some g = some b) w).setCell (fun _ => rfl) _
    generalize (w.setCell ⟨g, m * 4 + 3, none⟩ (.int .i64 now)) = w1 at *
    go_wp2_with (go_at_call 34; (with_reducible refine (HLF.out _ _ HR2.out).mono ?_); rintro e w2 ⟨rfl, nq, hw2⟩; have hcr : w2.cell? ⟨q, 0, none⟩ = some (.int .i64 rate) := (by rw [← hw2]; exact hc5); have HW2 := Lib.hid hw2; clear hw2)
    go_loop [14] (fun iv => ∃ j : Nat, iv = .int .i64 j ∧ (j : Int) ≤ WF) (fun iv => (WF - intOf iv).toNat)
    case atStart => exact ⟨0, rfl, by omega⟩
    case round =>
      obtain ⟨j, rfl, hj⟩ := hrel
      have hw := HWS.out j
      have hpr0 : 0 ≤ (j : Int) * rate := Int.mul_nonneg (by omega) (by omega)
      have hpr1 : (j : Int) * rate ≤ 1000000000000 := by
        have h1 := Int.mul_le_mul (show (j : Int) ≤ 1000000 by omega) hr2 (by omega) (by omega : (0 : Int) ≤ 1000000)
        omega
      by_cases hlt : (j : Int) < WF
      · have h1 : lf + (j : Int) * rate < n := hw.2 hlt
        have h2 : (j : Int) < 2000000 := by omega
        by_cases hone : rate = 1
        · have hone2 := HW1.out hone (by rw [hone] at h1; omega)
          subst hone
          rw [Int.mul_one] at h1 hpr0 hpr1
          clear hw
          go_wp2
          go_round
          case rel => exact ⟨WF.toNat, congrArg (Value.int .i64) (by omega), by omega⟩
          case measure => simp [intOf]; omega
        · have hob : (rate == 1) = false := by simpa using hone
          clear hw hone
          go_wp2
          exact ⟨⟨j + 1, congrArg (Value.int .i64) (by omega), by omega⟩, by simp [intOf]; omega⟩
      · have h1 : ¬ lf + (j : Int) * rate < n := fun h => hlt (hw.1 h)
        obtain rfl : WF = (j : Int) := by omega
        clear hw
        go_wp2
        go_ret3
        exact ⟨rfl, by rw [← HW2.out]; exact HR2.out.heap rfl, by rw [← HW2.out]; exact ⟨HMs.out.os, HMs.out.tape, HMs.out.output, HMs.out.size, HMs.out.block⟩⟩
end Go.Proofs.YtfgplghjgjnggaaDoor.LimR
