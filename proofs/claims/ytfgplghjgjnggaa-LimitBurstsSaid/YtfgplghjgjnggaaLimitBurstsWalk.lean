/-
  The walk of the law LimitBursts: for all rates, bursts and times it returns true and writes nothing that was there.
  Conditions: none.
-/
import Derived.Test.YtfgplghjgjnggaaArgs
import Derived.Test.YtfgplghjgjnggaaLimitKeys
import Derived.Lib.Hide
namespace Go.Proofs.Ytfgplghjgjnggaa.WalkLimitBursts
open Go.RowKit LimitC ModL
set_option linter.unusedVariables false
set_option linter.unusedSimpArgs false

theorem chk {burst : Int} {l : List Ent} {k : List UInt8} {now n : Int} (hs : seenF l k ≤ now) (h0 : 0 ≤ now) (h1 : now ≤ 1000000) (hn : 1 ≤ n ∧ n ≤ burst) : checkE burst l k now n = 0 := by
  unfold checkE
  rw [if_neg (by omega), if_neg (by omega)]
/-- What came back: a slice of so many. -/
theorem row_len {w : World} {B n : Nat} {e : TypeId} {v : Value} {xs : List Value} (h : w.ownsRow B e 1 v n xs) : ∃ a c, v = .slice a n c := by
  obtain ⟨_, ⟨rfl, rfl⟩ | ⟨g, cap, cur, rfl, _⟩⟩ := h
  · exact ⟨none, 0, rfl⟩
  · exact ⟨_, cap, rfl⟩
theorem keys_len {w : World} {b ma ms : Nat} {rate burst : Int} {l : List Ent} (h : IsLimit w b ma ms rate burst l) (hl : l.length ≤ 1000000) :
    Calls Try.prog 16 #[.pointer (some ⟨b, 0, none⟩)] w fun e w' => ∃ a c, e = .returned (.slice a l.length c) ∧ Below w.heap.size w w' := by
  refine (keys_any h hl).mono ?_
  rintro e w' ⟨v, ss, rfl, hp, hrow, _, hB⟩
  obtain ⟨a, c, rfl⟩ := row_len hrow
  have hlen : ss.length = l.length := by rw [hp.length_eq]; simp
  rw [hlen]
  exact ⟨a, c, rfl, hB⟩
/-- k asks of "a", each for one, of a burst. -/
def Asked (burst now : Int) (k : Nat) (L : List Ent) : Prop := (k = 0 ∧ L = []) ∨ (0 < k ∧ ∃ a, L = [⟨[97], a, burst - k, now, now⟩])
theorem Asked.left {rate burst now : Int} {k : Nat} {L : List Ent} (h : Asked burst now k L) (hk : 0 ≤ burst) : leftF rate burst L [97] now = burst - k := by
  rcases h with ⟨rfl, rfl⟩ | ⟨_, a, rfl⟩
  · show burst = burst - ((0 : Nat) : Int); omega
  · show min burst (burst - k + rate * (now - now)) = burst - k
    rw [Int.sub_self, Int.mul_zero]; omega
theorem Asked.seen {burst now : Int} {k : Nat} {L : List Ent} (h : Asked burst now k L) (h0 : 0 ≤ now) : seenF L [97] ≤ now ∧ L.length ≤ 1 := by
  rcases h with ⟨rfl, rfl⟩ | ⟨_, a, rfl⟩
  · exact ⟨h0, by simp⟩
  · exact ⟨Int.le_refl _, by simp⟩
theorem Asked.step {rate burst now : Int} {k : Nat} {L : List Ent} (h : Asked burst now k L) (hk : (k : Int) < burst) (a : Nat) : Asked burst now (k + 1) (askL rate burst L [97] now 1 a) := by
  have hl := h.left (rate := rate) (by omega)
  refine .inr ⟨by omega, a, ?_⟩
  have e : (if 1 ≤ leftF rate burst L [97] now then leftF rate burst L [97] now - 1 else leftF rate burst L [97] now) = burst - ((k + 1 : Nat) : Int) := by rw [hl, if_pos (by omega)]; omega
  unfold askL
  rw [e]
  rcases h with ⟨rfl, rfl⟩ | ⟨_, a', rfl⟩ <;> rfl
theorem asked_out (rate burst now : Int) (k a a5 : Nat) (hk : (k : Int) = burst) (hb : 0 ≤ burst) : askL rate burst [⟨[97], a, burst - k, now, now⟩] [97] now 1 a5 = [⟨[97], a5, 0, now, now⟩] := by
  have hl : leftF rate burst [⟨[97], a, burst - k, now, now⟩] [97] now = 0 := by
    show min burst (burst - k + rate * (now - now)) = 0
    rw [Int.sub_self, Int.mul_zero]; omega
  unfold askL
  rw [hl]
  rfl
theorem wait_one (rate : Int) (hr : 1 ≤ rate) : waitF rate 0 1 = 1 := by
  unfold waitF
  rw [show (1 : Int) - 0 + rate - 1 = rate by omega, Int.tdiv_self (by omega)]
  rfl
set_option maxRecDepth 100000 in
set_option maxHeartbeats 8000000 in
theorem walk (rate burst now : Int) (w : World) (w0 : Args.I64 rate) (w1 : Args.I64 burst) (w2 : Args.I64 now) :
    Calls Try.prog 6 #[.int .i64 rate, .int .i64 burst, .int .i64 now] w fun e w' => e = .returned (.bool true) ∧ Below w.heap.size w w' := by
  obtain ⟨r1, r2⟩ := w0
  obtain ⟨b1, b2⟩ := w1
  obtain ⟨n1, n2⟩ := w2
  by_cases hok : (1 ≤ rate ∧ rate ≤ 1000000) ∧ (1 ≤ burst ∧ burst ≤ 1000000)
  · obtain ⟨hr, hbu⟩ := hok
    have HN := Lib.hid (new_ok rate burst w hr hbu)
    go_enter Try.func6, Try.ntmps6
    go_wp2_with fail
    refine HN.out.mono ?_
    rintro e w1 ⟨rfl, h1, hB1, hs1⟩
    have HB1 := Lib.hid hB1
    have H1 := Lib.hid h1
    clear h1 hB1 HN
    by_cases hin : burst ≤ 300 ∧ 0 ≤ now ∧ now ≤ 1000000
    · obtain ⟨g1, g2, g3⟩ := hin
      have hz : checkE burst [] (⟨#[97]⟩ : ByteArray).data.toList now 1 = 0 := chk (show (0 : Int) ≤ now from g2) g2 g3 (by omega)
      have HL := Lib.hid (Left_any H1.out (⟨#[97]⟩ : ByteArray) (by decide) now (by simp))
      go_wp2_with fail
      refine HL.out.mono ?_
      rintro e w2 (⟨hx, _⟩ | ⟨_, rfl, h2, hM2⟩)
      · exact absurd hz hx
      · have e2 : seeL [] (⟨#[97]⟩ : ByteArray).data.toList now = [] := rfl
        have e3 : leftF rate burst [] (⟨#[97]⟩ : ByteArray).data.toList now = burst := rfl
        rw [e2] at h2
        rw [e3]
        have hs2 := hM2.size
        have HB2 : Hid (Below w.heap.size w w2) := HB1.out.trans (hM2.toBelow (by omega) fun k hk => by omega)
        have HK2 := Lib.hid (keys_len h2 (by simp))
        have H2 := Lib.hid h2
        clear h2 hM2 e2 e3 hz HL H1 HB1
        go_wp2_with fail
        refine HK2.out.mono ?_
        rintro e w3 ⟨a3, c3, rfl, hB3⟩
        have H3 := Lib.hid (H2.out.below hB3)
        have HB3 : Hid (Below w.heap.size w w3) := HB2.out.trans (hB3.mono (by omega))
        have hs3 := hB3.size
        clear hB3 HK2 H2 HB2
        go_wp2_with fail
        go_loopw [11] (fun i wr => ∃ (k : Nat) (L : List Ent), i = .int .i64 k ∧ (k : Int) ≤ burst ∧ IsLimit wr (w.heap.size + 2) w.heap.size (w.heap.size + 1) rate burst L ∧ Hid (Asked burst now k L) ∧ Below w.heap.size w wr) (fun i _ => (burst - intOf i).toNat)
        case atStart => exact ⟨0, [], rfl, by omega, H3.out, .inl ⟨rfl, rfl⟩, HB3.out⟩
        case round =>
          clear HB3 H3
          obtain ⟨k, L, rfl, hk, hI, HA, hB⟩ := hrel
          have hse := HA.out.seen g2
          have hlf := HA.out.left (rate := rate) (by omega)
          have hz : checkE burst L (⟨#[97]⟩ : ByteArray).data.toList now 1 = 0 := chk hse.1 g2 g3 (by omega)
          have HAK := Lib.hid (Ask_ok hI (⟨#[97]⟩ : ByteArray) (by decide) now 1 hz (.inr (by omega)) (by omega))
          rw [show (⟨#[97]⟩ : ByteArray).data.toList = [97] from rfl, hlf] at HAK
          have HB := Lib.hid hB
          have HI := Lib.hid hI
          clear hz hlf hB hI
          by_cases hlt : (k : Int) < burst
          · have hd : decide (1 ≤ burst - (k : Int)) = true := by simp; omega
            rw [hd] at HAK
            clear hd
            go_wp2_with fail
            refine HAK.out.mono ?_
            rintro e w5 ⟨rfl, a5, hnew5, h5, hM5⟩
            have hsb := HB.out.size
            have HB5 : Hid (Below w.heap.size w w5) := HB.out.trans (hM5.toBelow hsb fun q hq => by omega)
            have H5 := Lib.hid h5
            have HA5 := Lib.hid (HA.out.step (rate := rate) hlt a5)
            clear h5 hM5 HAK hnew5
            go_wp2_with fail
            go_roundw
            case measure => simp [intOf] <;> omega
            exact ⟨k + 1, _, rfl, by omega, H5.out, HA5.out, HB5.out⟩
          · obtain hkb : (k : Int) = burst := by omega
            have hd : decide (1 ≤ burst - (k : Int)) = false := by simp; omega
            rw [hd] at HAK
            clear hd
            go_wp2_with fail
            refine HAK.out.mono ?_
            rintro e w5 ⟨rfl, a5, hnew5, h5, hM5⟩
            have hsb := HB.out.size
            have HB5 : Hid (Below w.heap.size w w5) := HB.out.trans (hM5.toBelow hsb fun q hq => by omega)
            have h5' : IsLimit w5 (w.heap.size + 2) w.heap.size (w.heap.size + 1) rate burst [⟨[97], a5, 0, now, now⟩] := by
              rcases HA.out with ⟨rfl, _⟩ | ⟨_, a, rfl⟩
              · omega
              · rw [asked_out rate burst now k a a5 hkb (by omega)] at h5; exact h5
            clear h5 hM5 HAK hnew5 HA HI HB
            have hz6 : checkE burst [⟨[97], a5, 0, now, now⟩] (⟨#[98]⟩ : ByteArray).data.toList now burst = 0 := chk (show (0 : Int) ≤ now from g2) g2 g3 (by omega)
            have HAK6 := Lib.hid (Ask_ok h5' (⟨#[98]⟩ : ByteArray) (by decide) now burst hz6 (.inr (by simp)) (by simp))
            rw [show leftF rate burst [⟨[97], a5, 0, now, now⟩] (⟨#[98]⟩ : ByteArray).data.toList now = burst from rfl, show decide (burst ≤ burst) = true by simp] at HAK6
            clear hz6 h5'
            go_wp2_with fail
            refine HAK6.out.mono ?_
            rintro e w6 ⟨rfl, a6, _, h6, hM6⟩
            have HB6 : Hid (Below w.heap.size w w6) := HB5.out.trans (hM6.toBelow HB5.out.size fun q hq => by omega)
            have e6 : askL rate burst [⟨[97], a5, 0, now, now⟩] (⟨#[98]⟩ : ByteArray).data.toList now burst a6 = [⟨[97], a5, 0, now, now⟩, ⟨[98], a6, if burst ≤ burst then burst - burst else burst, now, now⟩] := rfl
            rw [e6] at h6
            obtain ⟨L6, hL6⟩ : ∃ L6 : List Ent, ([⟨[97], a5, 0, now, now⟩, ⟨[98], a6, if burst ≤ burst then burst - burst else burst, now, now⟩] : List Ent) = L6 := ⟨_, rfl⟩
            have hf6 : seenF L6 [97] ≤ now ∧ L6.length = 2 ∧ leftF rate burst L6 [97] now = 0 ∧ (seeL L6 [97] now).length = 2 := by
              subst hL6
              refine ⟨Int.le_refl _, rfl, ?_, rfl⟩
              show min burst (0 + rate * (now - now)) = 0
              rw [Int.sub_self, Int.mul_zero]; omega
            rw [hL6] at h6
            clear hM6 HAK6 HB5 hL6 e6
            have hz7 : checkE burst L6 [97] now 1 = 0 := chk hf6.1 g2 g3 (by omega)
            have HW := Lib.hid (Wait_any h6 (⟨#[97]⟩ : ByteArray) (by decide) now 1 (by rw [hf6.2.1]; decide))
            rw [show (⟨#[97]⟩ : ByteArray).data.toList = [97] from rfl, hf6.2.2.1, wait_one rate (by omega)] at HW
            have HL7 := Lib.hid hf6.2.2.2
            clear h6 hf6
            go_wp2_with fail
            refine HW.out.mono ?_
            rintro e w7 (⟨hx, _⟩ | ⟨_, rfl, h7, hM7⟩)
            · exact absurd hz7 hx
            · have HB7 : Hid (Below w.heap.size w w7) := HB6.out.trans (hM7.toBelow HB6.out.size fun q hq => by omega)
              have HK7 := Lib.hid (keys_len h7 (by rw [HL7.out]; decide))
              rw [HL7.out] at HK7
              clear hM7 HW HB6 h7 hz7 HL7
              go_wp2_with fail
              refine HK7.out.mono ?_
              rintro e w8 ⟨a8, c8, rfl, hB8⟩
              go_wp2
              go_ret
              exact ⟨rfl, HB7.out.trans (hB8.mono HB7.out.size)⟩
    · have hex : 300 < burst ∨ (burst ≤ 300 ∧ now < 0) ∨ (burst ≤ 300 ∧ 0 ≤ now ∧ 1000000 < now) := by omega
      clear hin
      rcases hex with q1 | ⟨q1, q2⟩ | ⟨q1, q2, q3⟩
      all_goals
        go_wp2
        go_ret
        exact ⟨rfl, HB1.out⟩
  · have HN := Lib.hid (new_bad rate burst w (by omega))
    have hex : rate < 1 ∨ (1 ≤ rate ∧ 1000000 < rate) ∨ (1 ≤ rate ∧ rate ≤ 1000000 ∧ burst < 1) ∨ (1 ≤ rate ∧ rate ≤ 1000000 ∧ 1 ≤ burst ∧ 1000000 < burst) := by omega
    clear hok
    rcases hex with q1 | ⟨q1, q2⟩ | ⟨q1, q2, q3⟩ | ⟨q1, q2, q3, q4⟩
    all_goals
      go_enter Try.func6, Try.ntmps6
      go_wp2_with fail
      refine HN.out.mono ?_
      rintro e w1 ⟨rfl, rfl⟩
      go_wp2
      go_ret
      exact ⟨rfl, Below.refl _ _⟩
end Go.Proofs.Ytfgplghjgjnggaa.WalkLimitBursts
