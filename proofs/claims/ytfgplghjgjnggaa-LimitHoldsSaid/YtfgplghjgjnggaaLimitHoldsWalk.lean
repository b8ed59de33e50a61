/-
  The walk of the law LimitHolds: for all rates, bursts, times and asks it returns true and writes nothing that was there.
  Conditions: none.
-/
import Derived.Test.YtfgplghjgjnggaaArgs
import Derived.Test.YtfgplghjgjnggaaLimit
import Derived.Test.YtfgplghjgjnggaaRows1
import Derived.Deep.CutBlock
import Derived.Lib.Hide
namespace Go.Proofs.Ytfgplghjgjnggaa.WalkLimitHolds
open Go.RowKit LimitC ModL
set_option linter.unusedVariables false
set_option linter.unusedSimpArgs false

theorem elemI : RowsL.Elem Try.prog 32 3 (.int .i64 0) 8 := ⟨Try.underlying32, by kernel_rfl, rfl, by decide⟩
def valI (l : List Int) : List Value := l.map (Value.int .i64)
theorem valI_len (l : List Int) : (valI l).length = l.length := by simp [valI]
theorem valI_get (l : List Int) (j : Nat) (h : j < l.length) : (valI l)[j]? = some (.int .i64 (l.getD j 0)) := by simp [valI, List.getD, h]
theorem getD_nn {l : List Int} (h : ∀ x ∈ l, 0 ≤ x) (j : Nat) : 0 ≤ l.getD j 0 := by
  rcases Nat.lt_or_ge j l.length with hj | hj
  · exact h _ (by simp [List.getD, hj])
  · simp [List.getD, List.getElem?_eq_none hj]
theorem valI_snoc (l : List Int) (x : Int) : valI (l ++ [x]) = valI l ++ [.int .i64 x] := by simp [valI]
/-- No more was taken, from any ask on, than what is there, and what came. -/
def Pot (rate burst left at_ : Int) (ats tks : List Int) : Prop := ats.length = tks.length ∧ ∀ p, p < ats.length → (tks.drop p).sum ≤ burst - left + rate * (at_ - ats.getD p 0) ∧ ats.getD p 0 ≤ at_
theorem sum_snoc (l : List Int) (x : Int) : (l ++ [x]).sum = l.sum + x := by simp
theorem Pot.step {rate burst left at_ now left' took : Int} {ats tks : List Int} (h : Pot rate burst left at_ ats tks) (hr : 0 ≤ rate) (hn : at_ ≤ now) (h1 : left' ≤ left + rate * (now - at_) - took) (h2 : left' ≤ burst - took) :
    Pot rate burst left' now (ats ++ [now]) (tks ++ [took]) := by
  obtain ⟨hl, hp⟩ := h
  refine ⟨by simp [hl], fun p hlt => ?_⟩
  simp only [List.length_append, List.length_singleton] at hlt
  by_cases hpl : p < ats.length
  · obtain ⟨a1, a2⟩ := hp p hpl
    have e1 : (ats ++ [now]).getD p 0 = ats.getD p 0 := by simp [List.getD, List.getElem?_append, hpl]
    have e2 : (tks ++ [took]).drop p = tks.drop p ++ [took] := by rw [List.drop_append_of_le_length (by omega)]
    rw [e1, e2, sum_snoc]
    have e3 : rate * (now - ats.getD p 0) = rate * (now - at_) + rate * (at_ - ats.getD p 0) := by
      rw [← Int.mul_add]; congr 1; omega
    rw [e3]
    omega
  · obtain rfl : p = ats.length := by omega
    have e1 : (ats ++ [now]).getD ats.length 0 = now := by simp [List.getD]
    have e2 : (tks ++ [took]).drop ats.length = [took] := by rw [hl, List.drop_append_of_le_length (Nat.le_refl _), List.drop_length]; rfl
    rw [e1, e2]
    simp
    omega
theorem Pot.here {rate burst left at_ : Int} {ats tks : List Int} (h : Pot rate burst left at_ ats tks) (h0 : ∀ x ∈ tks, 0 ≤ x) (p : Nat) (hp : p < ats.length) : ats.getD p 0 ≤ at_ ∧ 0 ≤ (tks.drop (p + 1)).sum ∧ 0 ≤ tks.getD p 0 ∧ (tks.drop p).sum = (tks.drop (p + 1)).sum + tks.getD p 0 ∧ (tks.drop p).sum ≤ burst - left + rate * (at_ - ats.getD p 0) := by
  obtain ⟨h1, h2⟩ := h.2 p hp
  have hl : p < tks.length := by rw [← h.1]; exact hp
  have e : tks.drop p = tks.getD p 0 :: tks.drop (p + 1) := by rw [List.drop_eq_getElem_cons hl]; simp [List.getD, hl]
  have g : ∀ l : List Int, (∀ x ∈ l, 0 ≤ x) → 0 ≤ l.sum := fun l hl => by
    induction l with
    | nil => simp
    | cons a l ih => simp only [List.sum_cons]; have := hl a (by simp); have := ih (fun x hx => hl x (by simp [hx])); omega
  have hg : tks.getD p 0 ∈ tks := by simp [List.getD, hl]
  refine ⟨h2, g _ fun x hx => h0 x (List.mem_of_mem_drop hx), h0 _ hg, ?_, h1⟩
  rw [e, List.sum_cons]; omega
theorem Pot.first {rate burst left' now took : Int} (h2 : left' ≤ burst - took) : Pot rate burst left' now [now] [took] := by
  refine ⟨rfl, fun p hlt => ?_⟩
  obtain rfl : p = 0 := by simp at hlt; exact hlt
  simp; omega
/-- Who waits as long as it is told finds what it asked for. -/
theorem wait_enough (rate left n : Int) (hr : 1 ≤ rate) : n ≤ left + rate * waitF rate left n := by
  unfold waitF
  by_cases h : 0 ≤ n - left + rate - 1
  · rw [Int.tdiv_eq_ediv_of_nonneg h]
    have h1 := Int.lt_ediv_add_one_mul_self (n - left + rate - 1) (show (0 : Int) < rate by omega)
    have h2 : 0 ≤ (n - left + rate - 1) / rate := Int.ediv_nonneg h (by omega)
    rw [Int.max_eq_right h2]
    rw [Int.add_mul, Int.one_mul, Int.mul_comm] at h1
    omega
  · have : 0 ≤ rate * max 0 ((n - left + rate - 1).tdiv rate) := Int.mul_nonneg (by omega) (by omega)
    omega
theorem wait_bd (rate left n : Int) (hr : 1 ≤ rate) (hl : 0 ≤ left) (hn : 1 ≤ n ∧ n ≤ 1000) : 0 ≤ waitF rate left n ∧ waitF rate left n ≤ 1000 := by
  unfold waitF
  by_cases h : 0 ≤ n - left + rate - 1
  · rw [Int.tdiv_eq_ediv_of_nonneg h]
    have h2 : (n - left + rate - 1) / rate ≤ 1000 := by
      apply Int.ediv_le_of_le_mul (by omega)
      have : 1000 * 1 ≤ 1000 * rate := Int.mul_le_mul_of_nonneg_left hr (by omega)
      have h5 : (n - 1) * 1 ≤ (n - 1) * rate := Int.mul_le_mul_of_nonneg_left hr (by omega)
      have h6 : (n - 1) * rate ≤ 999 * rate := Int.mul_le_mul_of_nonneg_right (by omega) (by omega)
      omega
    omega
  · have h3 : (n - left + rate - 1).tdiv rate ≤ 0 := by
      have : (n - left + rate - 1) = -(-(n - left + rate - 1)) := by omega
      rw [this, Int.neg_tdiv]
      have := Int.tdiv_nonneg (a := -(n - left + rate - 1)) (b := rate) (by omega) (by omega)
      omega
    omega

/-- What the limit knows of the one key, and what the law's rows say. -/
def St (rate burst : Int) (l : List Ent) (N : Int) (ats tks : List Int) : Prop :=
  (l = [] ∧ ats = [] ∧ tks = []) ∨ ∃ a left at_ seen, l = [⟨[107], a, left, at_, seen⟩] ∧ at_ ≤ seen ∧ seen ≤ N ∧ Pot rate burst left at_ ats tks
def took (L n : Int) : Int := if n ≤ L then n else 0
def rest (L n : Int) : Int := if n ≤ L then L - n else L
theorem St.seen {rate burst : Int} {l : List Ent} {N : Int} {ats tks : List Int} (h : St rate burst l N ats tks) (hN : 0 ≤ N) : seenF l [107] ≤ N ∧ l.length ≤ 1 := by
  rcases h with ⟨rfl, _, _⟩ | ⟨a, left, at_, seen, rfl, _, hs, _⟩
  · exact ⟨hN, by simp⟩
  · exact ⟨hs, by simp⟩
theorem St.ask {rate burst : Int} {l : List Ent} {N N' n : Int} {ats tks : List Int} (h : St rate burst l N ats tks) (hr : 1 ≤ rate) (hn : 1 ≤ n) (hN : N ≤ N') (a : Nat) :
    askL rate burst l [107] N' n a = [⟨[107], a, rest (leftF rate burst l [107] N') n, N', N'⟩] ∧ Pot rate burst (rest (leftF rate burst l [107] N') n) N' (ats ++ [N']) (tks ++ [took (leftF rate burst l [107] N') n]) := by
  rcases h with ⟨rfl, rfl, rfl⟩ | ⟨a0, left, at_, seen, rfl, h1, h2, hp⟩
  · refine ⟨rfl, Pot.first ?_⟩
    show rest burst n ≤ burst - took burst n
    unfold rest took; split <;> omega
  · refine ⟨rfl, hp.step (by omega) (by omega) ?_ ?_⟩
    · show rest (min burst (left + rate * (N' - at_))) n ≤ left + rate * (N' - at_) - took (min burst (left + rate * (N' - at_))) n
      unfold rest took; split <;> omega
    · show rest (min burst (left + rate * (N' - at_))) n ≤ burst - took (min burst (left + rate * (N' - at_))) n
      unfold rest took; split <;> omega
theorem check_at {burst : Int} {l : List Ent} {N n : Int} (hs : seenF l [107] ≤ N) (h0 : 0 ≤ N) (h1 : N ≤ 1000000) : checkE burst l [107] N n = if n < 1 ∨ burst < n then 1 else 0 := by
  unfold checkE
  by_cases h : n < 1 ∨ burst < n
  · rw [if_pos h, if_pos (by omega)]
  · rw [if_neg h, if_neg (by omega), if_neg (by omega)]
theorem see_one (a : Nat) (R at_ seen M : Int) : seeL [⟨[107], a, R, at_, seen⟩] [107] M = [⟨[107], a, R, at_, M⟩] := rfl
theorem left_one {w : World} {b ma ms : Nat} {rate burst : Int} {a : Nat} {R at_ seen : Int} (h : IsLimit w b ma ms rate burst [⟨[107], a, R, at_, seen⟩]) (M : Int) (h1 : 0 ≤ M ∧ M ≤ 1000000) (h2 : seen ≤ M) :
    Calls Try.prog 14 #[.pointer (some ⟨b, 0, none⟩), .string (⟨#[107]⟩ : ByteArray), .int .i64 M] w fun e w' => e = .returned (.tuple #[.int .i64 (min burst (R + rate * (M - at_))), .nilIface]) ∧ IsLimit w' b ma ms rate burst [⟨[107], a, R, at_, M⟩] ∧ Mod (fun k => k = ms) w w' := by
  have hb := h.hb
  have hz : checkE burst [⟨[107], a, R, at_, seen⟩] (⟨#[107]⟩ : ByteArray).data.toList M 1 = 0 := by
    show checkE burst [⟨[107], a, R, at_, seen⟩] [107] M 1 = 0
    rw [check_at h2 h1.1 h1.2, if_neg (by omega)]
  refine (Left_any h (⟨#[107]⟩ : ByteArray) (by decide) M (by simp)).mono ?_
  rintro e w' (⟨h3, _⟩ | ⟨_, h4, h5, h6⟩)
  · exact absurd hz h3
  · exact ⟨h4, h5, h6⟩
theorem wait_one {w : World} {b ma ms : Nat} {rate burst : Int} {a : Nat} {R at_ seen : Int} (h : IsLimit w b ma ms rate burst [⟨[107], a, R, at_, seen⟩]) (M n : Int) (h1 : 0 ≤ M ∧ M ≤ 1000000) (h2 : seen ≤ M) (hn : 1 ≤ n ∧ n ≤ burst) :
    Calls Try.prog 15 #[.pointer (some ⟨b, 0, none⟩), .string (⟨#[107]⟩ : ByteArray), .int .i64 M, .int .i64 n] w fun e w' => e = .returned (.tuple #[.int .i64 (waitF rate (min burst (R + rate * (M - at_))) n), .nilIface]) ∧ IsLimit w' b ma ms rate burst [⟨[107], a, R, at_, M⟩] ∧ Mod (fun k => k = ms) w w' := by
  have hz : checkE burst [⟨[107], a, R, at_, seen⟩] (⟨#[107]⟩ : ByteArray).data.toList M n = 0 := by
    show checkE burst [⟨[107], a, R, at_, seen⟩] [107] M n = 0
    rw [check_at h2 h1.1 h1.2, if_neg (by omega)]
  refine (Wait_any h (⟨#[107]⟩ : ByteArray) (by decide) M n (by simp)).mono ?_
  rintro e w' (⟨h3, _⟩ | ⟨_, h4, h5, h6⟩)
  · exact absurd hz h3
  · exact ⟨h4, h5, h6⟩
set_option maxRecDepth 100000 in
set_option maxHeartbeats 16000000 in
theorem walk (rate burst : Int) (v2 : Value) (ts : List Int) (v3 : Value) (qs : List Int) (w : World) (w0 : Args.I64 rate) (w1 : Args.I64 burst) (w2 : Args.IntsAt w v2 ts) (w3 : Args.IntsAt w v3 qs) :
    Calls Try.prog 5 #[.int .i64 rate, .int .i64 burst, v2, v3] w fun e w' => e = .returned (.bool true) ∧ Below w.heap.size w w' := by
  obtain ⟨a2, cap2, rfl, hcap21, hcap22, hel2⟩ := w2.open
  obtain ⟨a3, cap3, rfl, hcap31, hcap32, hel3⟩ := w3.open
  have HT := Lib.hid hel2
  have HA := Lib.hid hel3
  clear hel2 hel3 w2 w3
  obtain ⟨r1, r2⟩ := w0
  obtain ⟨b1, b2⟩ := w1
  go_enter Try.func5, Try.ntmps5
  go_wp2_with fail
  refine (new_ok 1 5 _ (by omega) (by omega)).mono ?_
  rintro e w1 ⟨rfl, h1, hB1, hs1⟩
  have HB1 := Lib.hid hB1
  have HK1 := Lib.hid (Ask_ok h1 (⟨#[107]⟩ : ByteArray) (by decide) 0 5 (by decide) (.inr (by decide)) (by decide))
  clear h1 hB1
  go_wp2_with fail
  have e1 : leftF 1 5 [] (⟨#[107]⟩ : ByteArray).data.toList 0 = 5 := rfl
  refine HK1.out.mono ?_
  rintro e w2 ⟨rfl, a4, _, h2, hM2⟩
  have el : askL 1 5 [] (⟨#[107]⟩ : ByteArray).data.toList 0 5 a4 = [⟨[107], a4, 0, 0, 0⟩] := rfl
  rw [el] at h2
  have hs2 := hM2.size
  have HB2 : Hid (Below w.heap.size w w2) := HB1.out.trans (hM2.toBelow (by omega) fun k hk => by omega)
  have HK2 := Lib.hid (Ask_ok h2 (⟨#[107]⟩ : ByteArray) (by decide) 1 2 (by rfl) (.inr (by simp)) (by simp))
  rw [e1]
  clear h2 hM2 el e1
  go_wp2_with fail
  have e2 : leftF 1 5 [⟨[107], a4, 0, 0, 0⟩] (⟨#[107]⟩ : ByteArray).data.toList 1 = 1 := rfl
  rw [e2] at HK2
  refine HK2.out.mono ?_
  rintro e w3 ⟨rfl, a5, _, _, hM3⟩
  have hs3 := hM3.size
  have HB3 : Hid (Below w.heap.size w w3) := HB2.out.trans (hM3.toBelow (by omega) fun k hk => by omega)
  clear hM3 e2
  by_cases hok : (1 ≤ rate ∧ rate ≤ 1000000) ∧ (1 ≤ burst ∧ burst ≤ 1000000)
  · obtain ⟨hr, hbu⟩ := hok
    go_wp2_with fail
    refine (new_ok rate burst _ hr hbu).mono ?_
    rintro e w4 ⟨rfl, h4, hB4, hs4⟩
    have H4 := Lib.hid h4
    have HB4 : Hid (Below w.heap.size w w4) := HB3.out.trans (hB4.mono (by omega))
    clear h4 hB4
    by_cases hsm : rate ≤ 1000 ∧ burst ≤ 1000
    · obtain ⟨g1, g2⟩ := hsm
      go_wp2_with fail
      go_loopw [17, 18, 19, 20] (fun nw atv tkv i wr => ∃ (k : Nat) (N : Int) (l : List Ent) (ats tks : List Int), i = .int .i64 k ∧ nw = .int .i64 N ∧ k ≤ 40 ∧ 0 ≤ N ∧ N ≤ 2000 * (k : Int) ∧ ats.length = k ∧ tks.length = k ∧
          IsLimit wr (w3.heap.size + 2) w3.heap.size (w3.heap.size + 1) rate burst l ∧ Hid (St rate burst l N ats tks ∧ (∀ x ∈ tks, 0 ≤ x) ∧ ∀ x ∈ ats, 0 ≤ x) ∧ RowsL.Own wr w4.heap.size 3 atv (valI ats) ∧ RowsL.Own wr w4.heap.size 3 tkv (valI tks) ∧ Hid (∀ g, atv.ownBlock = some g → tkv.ownBlock ≠ some g) ∧ Below w.heap.size w wr ∧ w4.heap.size ≤ wr.heap.size) (fun _ _ _ i _ => 40 - (intOf i).toNat)
      case atStart => exact ⟨0, 0, [], [], [], rfl, rfl, by omega, by omega, by omega, rfl, rfl, H4.out, ⟨.inl ⟨rfl, rfl, rfl⟩, by simp, by simp⟩, RowsL.Own.nil _ _ _, RowsL.Own.nil _ _ _, (by intro g h; cases h), HB4.out, Nat.le_refl _⟩
      case round =>
        obtain ⟨k, N, l, ats, tks, rfl, rfl, hk, hN0, hN1, hla, hlt, hL, HST, hOa, hOt, HDJ, hB, hszr⟩ := hrel
        have HL := Lib.hid hL
        have HOA := Lib.hid hOa
        have HOT := Lib.hid hOt
        have HB := Lib.hid hB
        have HLA := Lib.hid hla
        have HLT := Lib.hid hlt
        clear hla hlt hOa hOt
        by_cases hin : k < ts.length ∧ k < qs.length ∧ k < 40
        · obtain ⟨i1, i2, i3⟩ := hin
          obtain ⟨bt, ot, rfl, hbt, hct, _⟩ := HT.out k i1
          obtain ⟨bq, oq, rfl, hbq, hcq, hqi⟩ := HA.out k i2
          replace hct := (hB.cell (p := ⟨bt, ot + k, none⟩) hbt).trans hct
          replace hcq := (hB.cell (p := ⟨bq, oq + k, none⟩) hbq).trans hcq
          generalize ts.getD k 0 = t at *
          obtain ⟨q, hq⟩ : ∃ q, qs.getD k 0 = q := ⟨_, rfl⟩
          rw [hq] at hcq hqi
          have HQ := Lib.hid hq
          clear hq
          obtain ⟨q1, q2⟩ := hqi
          by_cases htb : 0 ≤ t ∧ t ≤ 1000
          · obtain ⟨t1, t2⟩ := htb
            have hse := HST.out.1.seen hN0
            have hck := check_at (burst := burst) (l := l) (N := N + t) (n := q) (by omega) (by omega) (by omega)
            by_cases hbad : q < 1 ∨ burst < q
            · rw [if_pos hbad] at hck
              have hAB := Ask_bad hL (⟨#[107]⟩ : ByteArray) (by decide) (N + t) q (by rw [show (⟨#[107]⟩ : ByteArray).data.toList = [107] from rfl, hck]; decide)
              have HAB := Lib.hid hAB
              clear hAB hL hB hck hse
              go_wp2_with fail
              refine HAB.out.mono ?_
              rintro e w5 ⟨rfl, rfl⟩
              by_cases hq1 : q < 1
              · go_wp2
                go_ret
                exact ⟨rfl, HB.out⟩
              · have hq2 : burst < q := by omega
                go_wp2
                go_ret
                exact ⟨by simp [hq2], HB.out⟩
            · rw [if_neg hbad] at hck
              have hAK := Ask_ok hL (⟨#[107]⟩ : ByteArray) (by decide) (N + t) q hck (.inr (by omega)) (by omega)
              rw [show (⟨#[107]⟩ : ByteArray).data.toList = [107] from rfl] at hAK
              have HAK := Lib.hid hAK
              have hlb := leftF_bd hL [107] (N + t) (by omega)
              clear hAK hL hB hck hse
              go_wp2_with fail
              refine HAK.out.mono ?_
              rintro e w5 ⟨rfl, a5, hnew5, h5, hM5⟩
              obtain ⟨ea, hpot⟩ := HST.out.1.ask hr.1 (show 1 ≤ q by omega) (show N ≤ N + t by omega) a5
              rw [ea] at h5
              have hrest : 0 ≤ rest (leftF rate burst l [107] (N + t)) q ∧ rest (leftF rate burst l [107] (N + t)) q ≤ burst := by unfold rest; split <;> omega
              have htk : ∀ x ∈ tks ++ [took (leftF rate burst l [107] (N + t)) q], 0 ≤ x := fun x hx => by
                rcases List.mem_append.1 hx with hx | hx
                · exact HST.out.2.1 x hx
                · rw [List.mem_singleton.1 hx]; unfold took; split <;> omega
              have HTK := Lib.hid htk
              have hat : ∀ x ∈ ats ++ [N + t], 0 ≤ x := fun x hx => by
                rcases List.mem_append.1 hx with hx | hx
                · exact HST.out.2.2 x hx
                · rw [List.mem_singleton.1 hx]; omega
              have HAT := Lib.hid hat
              clear hat
              have HPOT := Lib.hid hpot
              have H5 := Lib.hid h5
              have hs5 := hM5.size
              have HOA5 : Hid (RowsL.Own w5 w4.heap.size 3 u18 (valI ats)) := HOA.out.of_block fun g hg => hM5.block g (HOA.out.lt g hg).2 (by have := (HOA.out.lt g hg).1; omega)
              have HOT5 : Hid (RowsL.Own w5 w4.heap.size 3 u19 (valI tks)) := HOT.out.of_block fun g hg => hM5.block g (HOT.out.lt g hg).2 (by have := (HOT.out.lt g hg).1; omega)
              have HB5 : Hid (Below w.heap.size w w5) := HB.out.trans (hM5.toBelow (by omega) fun k hk => by omega)
              have hcq5 := (hM5.cell (p := ⟨bq, oq + k, none⟩) (by simp only; have := HB.out.size; omega) (by simp only; omega)).trans hcq
              have HTOOK : Hid (took (leftF rate burst l [107] (N + t)) q = if q ≤ leftF rate burst l [107] (N + t) then q else 0) := rfl
              obtain ⟨T, hT⟩ : ∃ T, took (leftF rate burst l [107] (N + t)) q = T := ⟨_, rfl⟩
              obtain ⟨R, hR⟩ : ∃ R, rest (leftF rate burst l [107] (N + t)) q = R := ⟨_, rfl⟩
              rw [hT] at HTK HPOT HTOOK
              rw [hR] at HPOT H5 hrest
              clear ea hpot htk h5 hM5 hcq hct hlb hT hR
              have hlen1 : (valI ats).length < 4398046511000 := by rw [valI_len, HLA.out]; omega
              have hlen2 : (valI tks).length < 4398046511000 := by rw [valI_len, HLT.out]; omega
              have hszw : w4.heap.size ≤ w5.heap.size := by omega
              have HNE5 : Hid (u18.ownBlock ≠ some a5 ∧ u19.ownBlock ≠ some a5) := ⟨fun hg => by have := (HOA.out.lt a5 hg).2; omega, fun hg => by have := (HOT.out.lt a5 hg).2; omega⟩
              clear HOA HOT HB HL
              have hcase : (q ≤ leftF rate burst l [107] (N + t) ∧ T = q ∧ 0 ≤ q) ∨ (¬ q ≤ leftF rate burst l [107] (N + t) ∧ T = 0) := by
                have := HTOOK.out
                by_cases hle : q ≤ leftF rate burst l [107] (N + t)
                · rw [if_pos hle] at this; exact .inl ⟨hle, this, by omega⟩
                · rw [if_neg hle] at this; exact .inr ⟨hle, this⟩
              clear HTOOK
              have hM1 : 0 ≤ N + t ∧ N + t ≤ 2000 * (k : Int) + 1000 := by omega
              obtain ⟨M1, M2⟩ := hM1
              generalize N + t = M at HPOT H5 HAT hcase M1 M2 ⊢
              have HKT : Hid ((ats ++ [M]).length = k + 1 ∧ (tks ++ [T]).length = k + 1) := ⟨by simp [HLA.out], by simp [HLT.out]⟩
              rcases hcase with ⟨hle, hT0, hq0⟩ | ⟨hle, hT0⟩
              all_goals
                have HT0 := Lib.hid hT0
                clear hT0
                go_wp2_with (first
                  | (at_builtin; refine RowsL.wpList_append1 elemI rfl _ _ rfl w4.heap.size u18 _ rfl (RowsL.Own.alloc HOA5.out _) w5.heap.size 1 _ rfl (RowsL.cell_new1 _ _ _) rfl hlen1 (RowsL.le_alloc _ hszw) ?_; intro atv2 w6 hown6 hB6 hg6 hat6; have HOA6 := Lib.hid hown6; have HAT6 := Lib.hid hat6; have HOT6 := Lib.hid (RowsL.Own.of_block (RowsL.Own.alloc HOT5.out _) (fun g hg => hg6.block g (RowsL.Own.lt (RowsL.Own.alloc HOT5.out _) g hg).2 (fun e => HDJ.out g e.symm hg))); have HG6 := Lib.hid hg6; have hs6 := hg6.size; have HB6 := Lib.hid hB6; clear hown6 hB6 hg6 hat6)
                  | (at_builtin; refine RowsL.wpList_append1 elemI rfl _ _ rfl w4.heap.size u19 _ rfl (RowsL.Own.alloc HOT6.out _) w6.heap.size 1 _ rfl (RowsL.cell_new1 _ _ _) rfl hlen2 (RowsL.le_alloc _ (by simp at hs6; omega)) ?_; intro tkv2 w7 hown7 hB7 hg7 hat7; have HTWO := RowsL.Own.two HOA5.out HOT5.out HDJ.out HOA6.out HG6.out HAT6.out hg7 hat7; have HOT7 : Hid (RowsL.Own w7 w4.heap.size 3 tkv2 (valI (tks ++ [T]))) := (by rw [valI_snoc, HT0.out]; exact hown7); have HOA7 : Hid (RowsL.Own w7 w4.heap.size 3 atv2 (valI (ats ++ [M]))) := (by rw [valI_snoc]; exact HTWO.1); have HDJ7 := Lib.hid HTWO.2; have HBL : Hid (∀ k, k < w5.heap.size → u18.ownBlock ≠ some k → u19.ownBlock ≠ some k → w7.heap[k]? = w5.heap[k]?) := (fun k h0 h1 h2 => RowsL.two_block HG6.out hg7 k h0 h1 h2); have hs7 := RowsL.two_size HG6.out hg7; have HB7 := Lib.hid (RowsL.two_mod HB6.out hB7 hszw (by simp at hs6; omega)); obtain ⟨ga, ca, hva, va1, va2, va3, va4, va5, va6⟩ := HOA7.out.slice1 (k + 1) (by rw [valI_len]; exact HKT.out.1) (by omega); obtain ⟨gt, ct, hvt, vt1, vt2, vt3, vt4, vt5, vt6⟩ := HOT7.out.slice1 (k + 1) (by rw [valI_len]; exact HKT.out.2) (by omega); subst hva; subst hvt; have VA5 := Lib.hid va5; have VT5 := Lib.hid vt5; clear va5 va6 vt5 vt6 HTWO hown7 hB7 hg7 hat7 HG6 HAT6 HOA6 HOT6 HB6 hs6)
                  | fail)
                have H7 : Hid (IsLimit w7 (w3.heap.size + 2) w3.heap.size (w3.heap.size + 1) rate burst [⟨[107], a5, R, M, M⟩]) := H5.out.of_block fun g hg hh => by
                  refine HBL.out g hg (fun h => ?_) (fun h => ?_)
                  · rcases hh with rfl | rfl | rfl | ⟨e, he, rfl⟩
                    · have := (HOA5.out.lt _ h).1; omega
                    · have := (HOA5.out.lt _ h).1; omega
                    · have := (HOA5.out.lt _ h).1; omega
                    · rw [List.mem_singleton.1 he] at h; exact HNE5.out.1 h
                  · rcases hh with rfl | rfl | rfl | ⟨e, he, rfl⟩
                    · have := (HOT5.out.lt _ h).1; omega
                    · have := (HOT5.out.lt _ h).1; omega
                    · have := (HOT5.out.lt _ h).1; omega
                    · rw [List.mem_singleton.1 he] at h; exact HNE5.out.2 h
                clear HBL HNE5 HOA5 HOT5 HDJ HT0
                generalize hAT : ats ++ [M] = AT at *
                generalize hTK : tks ++ [T] = TK at *
                go_loopw [24, 25] (fun s kk wr2 => ∃ j : Nat, kk = .int .i64 ((j : Int) - 1) ∧ j ≤ k + 1 ∧ s = .int .i64 ((TK.drop j).sum) ∧ w7 = wr2) (fun _ kk _ => (intOf kk + 1).toNat)
                case atStart => exact ⟨k + 1, by first | rfl | (congr 1; omega), Nat.le_refl _, by rw [List.drop_eq_nil_of_le (by rw [HKT.out.2]; omega)]; rfl, rfl⟩
                case round =>
                  obtain ⟨j, rfl, hj, rfl, rfl⟩ := hrel
                  cases j with
                  | zero =>
                    have hR : min burst (R + rate * (M - M)) = R := by rw [Int.sub_self, Int.mul_zero]; omega
                    have HL1 := left_one H7.out M ⟨by omega, by omega⟩ (Int.le_refl _)
                    rw [hR] at HL1
                    go_wp2_with fail
                    refine HL1.mono ?_
                    rintro e w8 ⟨rfl, h8, hM8⟩
                    have hcq8 := (hM8.cell (p := ⟨bq, oq + k, none⟩) (by simp only; omega) (by simp only; omega)).trans ((HB7.out.cell (p := ⟨bq, oq + k, none⟩) (by simp only; omega)).trans hcq5)
                    have HCQ8 := Lib.hid hcq8
                    have HW1 := wait_one h8 M q ⟨by omega, by omega⟩ (Int.le_refl _) ⟨by omega, by omega⟩
                    rw [hR] at HW1
                    have hwb := wait_bd rate R q (by omega) (by omega) ⟨by omega, by omega⟩
                    have hwe := wait_enough rate R q (by omega)
                    generalize waitF rate R q = W at HW1 hwb hwe
                    obtain ⟨wb1, wb2⟩ := hwb
                    have HM8 := Lib.hid hM8
                    clear HL1 hR h8 hM8
                    go_wp2_with fail
                    refine HW1.mono ?_
                    rintro e w9 ⟨rfl, h9, hM9⟩
                    have HL2 := left_one h9 (M + W) ⟨by omega, by omega⟩ (by omega)
                    have hV : q ≤ min burst (R + rate * (M + W - M)) := by rw [show M + W - M = W by omega]; omega
                    generalize min burst (R + rate * (M + W - M)) = V at HL2 hV
                    have HM9 := Lib.hid (HM8.out.andThen hM9 (fun _ _ h => h))
                    have HCQ9 := Lib.hid ((hM9.cell (p := ⟨bq, oq + k, none⟩) (by simp only; have := HM8.out.size; omega) (by simp only; omega)).trans hcq8)
                    clear HW1 HM8 hwe h9 hM9 hcq8
                    go_wp2_with fail
                    refine HL2.mono ?_
                    rintro e w10 ⟨rfl, h10, hM10⟩
                    have hcq10 := (hM10.cell (p := ⟨bq, oq + k, none⟩) (by simp only; have := HM9.out.size; omega) (by simp only; omega)).trans HCQ9.out
                    have HM10 := Lib.hid (HM9.out.andThen hM10 (fun _ _ h => h))
                    have H10 := Lib.hid h10
                    have f1 : decide (burst < R) = false := by simp; omega
                    have f2 : decide (R < 0) = false := by simp; omega
                    have f3 : decide (V < q) = false := by simp; omega
                    have f4 : IntKind.i64.wrap (M + W) = M + W := IntWalk.i64_in _ (by omega)
                    clear HL2 h10 hM10 HM9 HCQ9 HCQ8
                    go_wp2_with fail
                    go_roundw
                    case measure => simp [intOf]; omega
                    have hs10 := HM10.out.size
                    refine ⟨k + 1, M + W, _, AT, TK, by first | rfl | (congr 1), rfl, by omega, by omega, by omega, HKT.out.1, HKT.out.2, H10.out, ⟨.inr ⟨a5, R, M, M + W, rfl, by omega, by omega, HPOT.out⟩, HTK.out, HAT.out⟩, HOA7.out.of_block fun g hg => HM10.out.block g (HOA7.out.lt g hg).2 (by have := (HOA7.out.lt g hg).1; omega), HOT7.out.of_block fun g hg => HM10.out.block g (HOT7.out.lt g hg).2 (by have := (HOT7.out.lt g hg).1; omega), HDJ7.out, HB5.out.trans ((HB7.out.mono (by omega)).trans (HM10.out.toBelow (by omega) fun g hg => by omega)), by omega⟩
                  | succ j =>
                    obtain ⟨p1, p2, p3, p4, p5⟩ := HPOT.out.here HTK.out j (by rw [HKT.out.1]; omega)
                    have ca5 := (VA5.out j (by omega)).trans (valI_get AT j (by rw [HKT.out.1]; omega))
                    have ct5 := (VT5.out j (by omega)).trans (valI_get TK j (by rw [HKT.out.2]; omega))
                    have hA0 := getD_nn HAT.out j
                    rw [p4] at p5
                    have HP4 := Lib.hid p4
                    rw [show ((j + 1 : Nat) : Int) - 1 = (j : Int) by omega]
                    generalize AT.getD j 0 = aj at *
                    generalize TK.getD j 0 = tj at *
                    generalize (List.drop (j + 1) TK).sum = s1 at *
                    have z1 : 0 ≤ rate * (M - aj) := Int.mul_nonneg (by omega) (by omega)
                    have z2 : rate * (M - aj) ≤ 1000 * 100000 := Int.mul_le_mul (by omega) (by omega) (by omega) (by omega)
                    have e1 : IntKind.i64.wrap (M - aj) = M - aj := IntWalk.i64_in _ (by omega)
                    have e2 : IntKind.i64.wrap (rate * (M - aj)) = rate * (M - aj) := IntWalk.i64_in _ (by omega)
                    have e3 : IntKind.i64.wrap (burst + rate * (M - aj)) = burst + rate * (M - aj) := IntWalk.i64_in _ (by omega)
                    have e4 : IntKind.i64.wrap (s1 + tj) = s1 + tj := IntWalk.i64_in _ (by omega)
                    have d1 : decide (burst + rate * (M - aj) < s1 + tj) = false := by simp; omega
                    have d2 : (0 : Int) ≤ (j : Int) := by omega
                    have d3 : (j : Int) < ((k + 1 : Nat) : Int) := by omega
                    clear p4
                    go_wp2_with fail
                    go_roundw
                    case measure => simp [intOf] <;> omega
                    exact ⟨j, rfl, by omega, by rw [HP4.out], trivial⟩
          · have ht' : t < 0 ∨ (0 ≤ t ∧ 1000 < t) := by omega
            clear htb hL hB
            rcases ht' with t1 | ⟨t1, t2⟩
            all_goals
              go_wp2
              go_ret
              exact ⟨rfl, HB.out⟩
        · have hex : ¬ k < ts.length ∨ (k < ts.length ∧ ¬ k < qs.length) ∨ (k < ts.length ∧ k < qs.length ∧ 40 ≤ k) := by omega
          clear hin hL hB
          rcases hex with j1 | ⟨j1, j2⟩ | ⟨j1, j2, j3⟩
          all_goals
            go_wp2
            go_ret
            exact ⟨rfl, HB.out⟩
    · have hs' : 1000 < rate ∨ (rate ≤ 1000 ∧ 1000 < burst) := by omega
      clear hsm
      rcases hs' with q1 | ⟨q1, q2⟩
      all_goals
        go_wp2
        go_ret
        exact ⟨rfl, HB4.out⟩
  · go_wp2_with fail
    refine (new_bad rate burst _ (by omega)).mono ?_
    rintro e w4 ⟨rfl, rfl⟩
    go_wp2
    go_ret
    exact ⟨rfl, HB3.out⟩
end Go.Proofs.Ytfgplghjgjnggaa.WalkLimitHolds
