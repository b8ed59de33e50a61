/-
  The reference's tests of a text: small, great, Token, Plain, Word, exactly.
  Conditions: the text's length.
-/
import Derived.Test.YteadmakhcpjpnaaDoorLineC
namespace Go.Proofs.YteadmakhcpjpnaaDoor.LineC
open Go.RowKit Go.Shelf
set_option linter.unusedVariables false
set_option linter.unusedSimpArgs false

def greatB (c : UInt8) : Bool := 65 ≤ c.toNat && c.toNat ≤ 90
theorem tok_parts (c : UInt8) : tokB c = (smallB c || greatB c) := rfl
theorem smallB_iff (c : UInt8) : smallB c = true ↔ (97 ≤ c.toNat ∧ c.toNat ≤ 122) ∨ (48 ≤ c.toNat ∧ c.toNat ≤ 57) ∨ c.toNat = 45 ∨ c.toNat = 95 := by
  unfold smallB; simp [or_assoc]
theorem greatB_iff (c : UInt8) : greatB c = true ↔ (65 ≤ c.toNat ∧ c.toNat ≤ 90) := by
  unfold greatB; simp
theorem small_any (c : UInt8) (w : World) : Calls Tryd.prog 50 #[.int .u8 c.toNat] w fun e w' => e = .returned (.bool (smallB c)) ∧ w = w' := by
  have h := c.toNat_lt
  have hi := smallB_iff c
  generalize smallB c = b at *
  obtain ⟨n, hn⟩ : ∃ n, c.toNat = n := ⟨_, rfl⟩
  rw [hn] at h hi ⊢
  clear hn
  have hc : (n < 48 ∧ n ≠ 45) ∨ n = 45 ∨ (48 ≤ n ∧ n ≤ 57) ∨ (58 ≤ n ∧ n ≤ 96 ∧ n ≠ 95) ∨ n = 95 ∨ (97 ≤ n ∧ n ≤ 122) ∨ 123 ≤ n := by omega
  rcases hc with ⟨c1, c2⟩ | rfl | ⟨c1, c2⟩ | ⟨c1, c2, c3⟩ | rfl | ⟨c1, c2⟩ | c1
  · have hb : b = false := Bool.eq_false_iff.2 (fun hx => by have := hi.1 hx; omega)
    have f1 : (n : Int) < 97 := by omega
    have f2 : (n : Int) < 48 := by omega
    have f3 : ((n : Int) == 45) = false := beq_eq_false_iff_ne.2 (by omega)
    have f4 : ((n : Int) == 95) = false := beq_eq_false_iff_ne.2 (by omega)
    subst hb; clear hi c1 c2 h
    go_enter Tryd.func50, Tryd.ntmps50
    go_wp2_with fail
    go_ret
    exact ⟨by simp [*], rfl⟩
  · have hb : b = true := hi.2 (by omega)
    subst hb; clear hi h
    go_enter Tryd.func50, Tryd.ntmps50
    go_wp2_with fail
    go_ret
    exact ⟨by simp [*], rfl⟩
  · have hb : b = true := hi.2 (by omega)
    have f1 : (n : Int) < 97 := by omega
    have f2 : (48 : Int) ≤ (n : Int) := by omega
    have f3 : (n : Int) ≤ 57 := by omega
    subst hb; clear hi c1 c2 h
    go_enter Tryd.func50, Tryd.ntmps50
    go_wp2_with fail
    go_ret
    exact ⟨by simp [*], rfl⟩
  · have hb : b = false := Bool.eq_false_iff.2 (fun hx => by have := hi.1 hx; omega)
    have f1 : (n : Int) < 97 := by omega
    have f2 : (48 : Int) ≤ (n : Int) := by omega
    have f5 : (57 : Int) < (n : Int) := by omega
    have f3 : ((n : Int) == 45) = false := beq_eq_false_iff_ne.2 (by omega)
    have f4 : ((n : Int) == 95) = false := beq_eq_false_iff_ne.2 (by omega)
    subst hb; clear hi c1 c2 c3 h
    go_enter Tryd.func50, Tryd.ntmps50
    go_wp2_with fail
    go_ret
    exact ⟨by simp [*], rfl⟩
  · have hb : b = true := hi.2 (by omega)
    subst hb; clear hi h
    go_enter Tryd.func50, Tryd.ntmps50
    go_wp2_with fail
    go_ret
    exact ⟨by simp [*], rfl⟩
  · have hb : b = true := hi.2 (by omega)
    have f1 : (97 : Int) ≤ (n : Int) := by omega
    have f3 : (n : Int) ≤ 122 := by omega
    subst hb; clear hi c1 c2 h
    go_enter Tryd.func50, Tryd.ntmps50
    go_wp2_with fail
    go_ret
    exact ⟨by simp [*], rfl⟩
  · have hb : b = false := Bool.eq_false_iff.2 (fun hx => by have := hi.1 hx; omega)
    have f1 : (97 : Int) ≤ (n : Int) := by omega
    have f5 : (122 : Int) < (n : Int) := by omega
    have f6 : (48 : Int) ≤ (n : Int) := by omega
    have f7 : (57 : Int) < (n : Int) := by omega
    have f3 : ((n : Int) == 45) = false := beq_eq_false_iff_ne.2 (by omega)
    have f4 : ((n : Int) == 95) = false := beq_eq_false_iff_ne.2 (by omega)
    subst hb; clear hi c1 h
    go_enter Tryd.func50, Tryd.ntmps50
    go_wp2_with fail
    go_ret
    exact ⟨by simp [*], rfl⟩
theorem great_any (c : UInt8) (w : World) : Calls Tryd.prog 51 #[.int .u8 c.toNat] w fun e w' => e = .returned (.bool (greatB c)) ∧ w = w' := by
  have h := c.toNat_lt
  have hi := greatB_iff c
  generalize greatB c = b at *
  obtain ⟨n, hn⟩ : ∃ n, c.toNat = n := ⟨_, rfl⟩
  rw [hn] at h hi ⊢
  clear hn
  have hc : n < 65 ∨ (65 ≤ n ∧ n ≤ 90) ∨ 91 ≤ n := by omega
  rcases hc with c1 | ⟨c1, c2⟩ | c1
  · have hb : b = false := Bool.eq_false_iff.2 (fun hx => by have := hi.1 hx; omega)
    have f1 : (n : Int) < 65 := by omega
    subst hb; clear hi c1 h
    go_enter Tryd.func51, Tryd.ntmps51
    go_wp2_with fail
    go_ret
    exact ⟨by simp [*], rfl⟩
  · have hb : b = true := hi.2 (by omega)
    have f1 : (65 : Int) ≤ (n : Int) := by omega
    have f2 : (n : Int) ≤ 90 := by omega
    subst hb; clear hi c1 c2 h
    go_enter Tryd.func51, Tryd.ntmps51
    go_wp2_with fail
    go_ret
    exact ⟨by simp [*], rfl⟩
  · have hb : b = false := Bool.eq_false_iff.2 (fun hx => by have := hi.1 hx; omega)
    have f1 : (65 : Int) ≤ (n : Int) := by omega
    have f2 : (90 : Int) < (n : Int) := by omega
    subst hb; clear hi c1 h
    go_enter Tryd.func51, Tryd.ntmps51
    go_wp2_with fail
    go_ret
    exact ⟨by simp [*], rfl⟩
theorem all_snoc (p : UInt8 → Bool) (s : ByteArray) (k : Nat) (h : k < s.size) : (s.data.toList.take (k + 1)).all p = ((s.data.toList.take k).all p && p s[k]) := by
  have e : s.data.toList.take (k + 1) = s.data.toList.take k ++ [s[k]] := by
    rw [List.take_succ_eq_append_getElem (by rw [← size_list]; exact h)]; rfl
  rw [e, List.all_append]; simp
theorem all_of_take {p : UInt8 → Bool} {l : List UInt8} {k : Nat} (h : (l.take k).all p = false) : l.all p = false := by
  rcases hb : l.all p with _ | _
  · rfl
  · rw [List.all_eq_true] at hb
    rw [List.all_eq_false] at h
    obtain ⟨x, hx, hp⟩ := h
    exact absurd (hb x (List.mem_of_mem_take hx)) hp
theorem all_full {p : UInt8 → Bool} {s : ByteArray} {k : Nat} (hk : k ≤ s.size) (hn : ¬ k < s.size) : (s.data.toList.take k).all p = s.data.toList.all p := by
  rw [List.take_of_length_le (by rw [← size_list]; omega)]
set_option maxHeartbeats 2000000 in
theorem rtoken_any (s : ByteArray) (hs : s.size ≤ maxLen) (w : World) : Calls Tryd.prog 35 #[.string s] w fun e w' => e = .returned (.bool (tokL s.data.toList)) ∧ w = w' := by
  unfold maxLen at hs
  obtain ⟨R, hR⟩ : ∃ R, tokL s.data.toList = R := ⟨_, rfl⟩
  rw [hR]
  have HR := Lib.hid hR
  clear hR
  go_enter Tryd.func35, Tryd.ntmps35
  go_wp2
  go_loop [3] (fun i => ∃ k : Nat, k ≤ s.size ∧ i = .int .i64 k ∧ Hid ((s.data.toList.take k).all tokB = true)) (fun i => s.size - (intOf i).toNat)
  case atStart => exact ⟨0, by omega, rfl, Lib.hid rfl⟩
  case round =>
    obtain ⟨k, hk, rfl, HA⟩ := hrel
    by_cases hlt : k < s.size
    · have hsn := all_snoc tokB s k hlt
      rw [HA.out, tok_parts, Bool.true_and] at hsn
      have HSN := Lib.hid hsn
      clear hsn
      rcases h1 : smallB s[k] with _ | _
      · rcases h2 : greatB s[k] with _ | _
        · have hrr : R = false := by
            rw [h1, h2] at HSN
            have := all_of_take HSN.out
            rw [← HR.out]; unfold tokL; rw [this, Bool.and_false]
          subst hrr
          go_wp2_with (first | (go_at_call 50; (with_reducible refine (small_any _ _).mono ?_); rintro e w1 ⟨rfl, rfl⟩) | (go_at_call 51; (with_reducible refine (great_any _ _).mono ?_); rintro e w1 ⟨rfl, rfl⟩))
          go_ret
          exact ⟨rfl, rfl⟩
        · rw [h1, h2] at HSN
          go_wp2_with (first | (go_at_call 50; (with_reducible refine (small_any _ _).mono ?_); rintro e w1 ⟨rfl, rfl⟩) | (go_at_call 51; (with_reducible refine (great_any _ _).mono ?_); rintro e w1 ⟨rfl, rfl⟩))
          go_round
          case rel => exact ⟨k + 1, by omega, by go_num, HSN⟩
          case measure => simp [intOf]; omega
      · rw [h1] at HSN
        go_wp2_with (first | (go_at_call 50; (with_reducible refine (small_any _ _).mono ?_); rintro e w1 ⟨rfl, rfl⟩) | (go_at_call 51; (with_reducible refine (great_any _ _).mono ?_); rintro e w1 ⟨rfl, rfl⟩))
        go_round
        case rel => exact ⟨k + 1, by omega, by go_num, HSN⟩
        case measure => simp [intOf]; omega
    · have hall := all_full (p := tokB) hk hlt
      rw [HA.out] at hall
      have hem := emp_list s
      have hsz := size_list s
      have hrr := HR.out
      unfold tokL at hrr
      rw [← hall, Bool.and_true, ← hem, ← hsz] at hrr
      have HRR := Lib.hid hrr
      clear hall hrr hem hsz HA HR
      rcases he : s.toList.isEmpty with _ | _
      · rw [he] at HRR
        by_cases h4 : s.size ≤ 400
        · have h5 : (s.size : Int) ≤ 400 := by omega
          have hrr : R = true := by rw [← HRR.out, decide_eq_true h4]; rfl
          subst hrr
          clear HRR h4
          go_wp2
          go_ret
          exact ⟨by first | (simp [h5]; done) | (simp; omega), rfl⟩
        · have h5 : (400 : Int) < (s.size : Int) := by omega
          have hrr : R = false := by rw [← HRR.out, decide_eq_false h4]; rfl
          subst hrr
          clear HRR h4
          go_wp2
          go_ret
          exact ⟨by first | (simp [h5]; done) | (simp; omega), rfl⟩
      · rw [he] at HRR
        have hrr : R = false := by rw [← HRR.out]; rfl
        subst hrr
        clear HRR
        go_wp2
        go_ret
        exact ⟨rfl, rfl⟩
theorem bne32 (c : UInt8) : ((c.toNat : Int) != 32) = (some c != some 32) := by
  by_cases h : c = 32
  · subst h; rfl
  · have h2 : c.toNat ≠ 32 := fun e => h (UInt8.toNat_inj.1 e)
    have h3 : (c.toNat : Int) ≠ 32 := by omega
    rw [bne_iff_ne.2 h3, bne_iff_ne.2 (by simpa using h)]
theorem sidx (x : ByteArray) (i : Nat) (z : Int) (hz : z = (i : Int)) (c : UInt8) (h : x.data.toList[i]? = some c) (W : World) : (Instr.index 9 (.string x) (.int .i64 z)).run Tryd.prog W = .ok (.int .u8 c.toNat) W := by
  subst hz
  obtain ⟨hi, hc⟩ := List.getElem?_eq_some_iff.1 h
  have hsz := size_list x
  rw [run_index_string _ _ _ _ _ Tryd.underlying9, dif_pos ⟨by omega, by omega⟩]
  have e : (x[(i : Int).toNat]'(by rw [Int.toNat_natCast]; omega)) = c := by rw [← hc]; rfl
  rw [e]
set_option maxHeartbeats 2000000 in
theorem rplain_any (s : ByteArray) (hs : s.size ≤ maxLen) (w : World) : Calls Tryd.prog 49 #[.string s] w fun e w' => e = .returned (.bool (plainL s.data.toList)) ∧ w = w' := by
  unfold maxLen at hs
  obtain ⟨R, hR⟩ : ∃ R, plainL s.data.toList = R := ⟨_, rfl⟩
  rw [hR]
  have HR := Lib.hid hR
  clear hR
  go_enter Tryd.func49, Tryd.ntmps49
  go_wp2
  go_loop [3] (fun i => ∃ k : Nat, k ≤ s.size ∧ i = .int .i64 k ∧ Hid ((s.data.toList.take k).all okB = true)) (fun i => s.size - (intOf i).toNat)
  case atStart => exact ⟨0, by omega, rfl, Lib.hid rfl⟩
  case round =>
    obtain ⟨k, hk, rfl, HA⟩ := hrel
    by_cases hlt : k < s.size
    · have hsn := all_snoc okB s k hlt
      rw [HA.out, Bool.true_and] at hsn
      have hx : s.data.toList[k]? = some s[k] := by rw [List.getElem?_eq_getElem (by rw [← size_list]; exact hlt)]; rfl
      have hix := sidx s k _ rfl _ hx
      have hbad : okB s[k] = false → R = false := fun h => by
        rw [h] at hsn
        have := all_of_take hsn
        rw [← HR.out]; unfold plainL; rw [show (s.data.toList.all fun c => 32 ≤ c.toNat && c.toNat ≤ 126) = s.data.toList.all okB from rfl, this, Bool.and_false]
      have hgood : okB s[k] = true → (s.data.toList.take (k + 1)).all okB = true := fun h => by rw [hsn, h]
      have HB := Lib.hid hbad
      have HG := Lib.hid hgood
      have hok : okB s[k] = (decide (32 ≤ s[k].toNat) && decide (s[k].toNat ≤ 126)) := rfl
      have h0 : 0 ≤ (k : Int) := by omega
      have h1 : (k : Int) < (s.size : Int) := by omega
      clear hx hsn hbad hgood
      generalize s[k] = c at *
      by_cases c1 : c.toNat < 32
      · have f1 : (c.toNat : Int) < 32 := by omega
        have hrr : R = false := HB.out (by rw [hok, decide_eq_false (by omega)]; rfl)
        subst hrr
        clear c1 hok HB HG
        go_wp2
        go_ret
        exact ⟨rfl, rfl⟩
      · have f1 : (32 : Int) ≤ (c.toNat : Int) := by omega
        by_cases c2 : c.toNat ≤ 126
        · have f2 : (c.toNat : Int) ≤ 126 := by omega
          have HN := Lib.hid (HG.out (by rw [hok, decide_eq_true (by omega), decide_eq_true c2]; rfl))
          clear c1 c2 hok HB HG
          go_wp2
          go_round
          case rel => exact ⟨k + 1, by omega, by go_num, HN⟩
          case measure => simp [intOf]; omega
        · have f2 : (126 : Int) < (c.toNat : Int) := by omega
          have hrr : R = false := HB.out (by rw [hok, decide_eq_false c2, Bool.and_false])
          subst hrr
          clear c1 c2 hok HB HG
          go_wp2
          go_ret
          exact ⟨rfl, rfl⟩
    · have hall := all_full (p := okB) hk hlt
      rw [HA.out] at hall
      have hem := emp_list s
      have hsz := size_list s
      have hrr := HR.out
      unfold plainL at hrr
      rw [show (s.data.toList.all fun c => 32 ≤ c.toNat && c.toNat ≤ 126) = s.data.toList.all okB from rfl, ← hall, Bool.and_true, ← hsz] at hrr
      rcases he : s.toList.isEmpty with _ | _
      · rw [hem] at he
        have hpos : 0 < s.data.toList.length := by
          rcases hl : s.data.toList with _ | ⟨a, t⟩
          · rw [hl] at he; cases he
          · simp
        obtain ⟨c0, hc0⟩ : ∃ c0, s.data.toList[0]? = some c0 := ⟨_, List.getElem?_eq_getElem hpos⟩
        obtain ⟨cl, hcl⟩ : ∃ cl, s.data.toList[s.data.toList.length - 1]? = some cl := ⟨_, List.getElem?_eq_getElem (by omega)⟩
        have i0 := sidx s 0 0 rfl c0 hc0
        have il := sidx s (s.data.toList.length - 1) ((s.size : Int) - 1) (by omega) cl hcl
        rw [← hem] at he
        rw [List.head?_eq_getElem?, List.getLast?_eq_getElem?, hc0, hcl, ← bne32, ← bne32] at hrr
        have h0 : 0 ≤ (s.size : Int) - 1 := by omega
        have h1 : (0 : Int) < (s.size : Int) := by omega
        obtain ⟨b0, hb0⟩ : ∃ b, ((c0.toNat : Int) != 32) = b := ⟨_, rfl⟩
        obtain ⟨b1, hb1⟩ : ∃ b, ((cl.toNat : Int) != 32) = b := ⟨_, rfl⟩
        rw [hb0, hb1] at hrr
        have HRR := Lib.hid hrr
        clear hrr hc0 hcl hpos hem hsz hall HA HR
        by_cases h4 : s.size ≤ 400
        · have h5 : (s.size : Int) ≤ 400 := by omega
          rw [decide_eq_true h4, Bool.true_and] at HRR
          clear h4
          rcases b0 with _ | _
          · have hrr : R = false := HRR.out.symm
            subst hrr
            clear HRR
            go_wp2
            go_ret
            exact ⟨by simp, rfl⟩
          · have hrr : R = b1 := HRR.out.symm
            subst hrr
            clear HRR
            go_wp2
            go_ret
            exact ⟨by simp, rfl⟩
        · have h5 : (400 : Int) < (s.size : Int) := by omega
          have hrr : R = false := by rw [← HRR.out, decide_eq_false h4]; rfl
          subst hrr
          clear HRR h4
          go_wp2
          go_ret
          exact ⟨by first | rfl | (simp [h5]; done) | (simp; omega), rfl⟩
      · have hl : s.data.toList = [] := by rw [hem] at he; simpa using he
        rw [hl, hsz, hl] at hrr
        have hrr : R = true := hrr.symm
        subst hrr
        clear hem hsz hall HA HR hl
        go_wp2
        go_ret
        exact ⟨rfl, rfl⟩
def noSp (c : UInt8) : Bool := c != 32
theorem noSp_all (l : List UInt8) : l.all noSp = !l.contains 32 := by
  induction l with
  | nil => rfl
  | cons a l ih =>
    rw [List.all_cons, ih, List.contains_cons, Bool.not_or]
    unfold noSp
    rw [show (a != 32) = !((32 : UInt8) == a) from by rw [bne, Bool.beq_comm]]
set_option maxHeartbeats 2000000 in
theorem rword_any (s : ByteArray) (hs : s.size ≤ maxLen) (w : World) : Calls Tryd.prog 34 #[.string s] w fun e w' => e = .returned (.bool (wordL s.data.toList)) ∧ w = w' := by
  have HP := Lib.hid (rplain_any s hs w)
  unfold maxLen at hs
  obtain ⟨R, hR⟩ : ∃ R, wordL s.data.toList = R := ⟨_, rfl⟩
  rw [hR]
  unfold wordL at hR
  rw [← noSp_all] at hR
  have HR := Lib.hid hR
  clear hR
  go_enter Tryd.func34, Tryd.ntmps34
  go_wp2
  go_loop [3] (fun i => ∃ k : Nat, k ≤ s.size ∧ i = .int .i64 k ∧ Hid ((s.data.toList.take k).all noSp = true)) (fun i => s.size - (intOf i).toNat)
  case atStart => exact ⟨0, by omega, rfl, Lib.hid rfl⟩
  case round =>
    obtain ⟨k, hk, rfl, HA⟩ := hrel
    by_cases hlt : k < s.size
    · have hsn := all_snoc noSp s k hlt
      rw [HA.out, Bool.true_and] at hsn
      have hx : s.data.toList[k]? = some s[k] := by rw [List.getElem?_eq_getElem (by rw [← size_list]; exact hlt)]; rfl
      have hix := sidx s k _ rfl _ hx
      have hbad : noSp s[k] = false → R = false := fun h => by
        rw [h] at hsn
        have := all_of_take hsn
        rw [← HR.out, this, Bool.and_false]
      have hgood : noSp s[k] = true → (s.data.toList.take (k + 1)).all noSp = true := fun h => by rw [hsn, h]
      have HB := Lib.hid hbad
      have HG := Lib.hid hgood
      have h0 : 0 ≤ (k : Int) := by omega
      have h1 : (k : Int) < (s.size : Int) := by omega
      clear hx hsn hbad hgood
      generalize s[k] = c at *
      by_cases c1 : c = 32
      · subst c1
        have hrr : R = false := HB.out rfl
        subst hrr
        clear HB HG
        go_wp2
        go_ret
        exact ⟨rfl, rfl⟩
      · have f1 : ((c.toNat : Int) == 32) = false := beq_eq_false_iff_ne.2 (fun e => c1 (UInt8.toNat_inj.1 (by show c.toNat = 32; omega)))
        have HN := Lib.hid (HG.out (by unfold noSp; exact bne_iff_ne.2 c1))
        clear c1 HB HG
        go_wp2
        go_round
        case rel => exact ⟨k + 1, by omega, by go_num, HN⟩
        case measure => simp [intOf]; omega
    · have hall := all_full (p := noSp) hk hlt
      rw [HA.out] at hall
      have hem := emp_list s
      have hrr := HR.out
      rw [← hall, Bool.and_true, ← hem] at hrr
      have HRR := Lib.hid hrr
      generalize plainL s.data.toList = q at *
      clear hrr hem hall HA HR
      rcases he : s.toList.isEmpty with _ | _
      · rw [he] at HRR
        have hrr : R = q := HRR.out.symm.trans (by simp)
        subst hrr
        clear HRR
        go_wp2_with (go_at_call 49; (with_reducible refine HP.out.mono ?_); rintro e w1 ⟨rfl, rfl⟩)
        all_goals go_ret
        all_goals exact ⟨by simp [*], rfl⟩
      · rw [he] at HRR
        have hrr : R = false := HRR.out.symm.trans (by simp)
        subst hrr
        clear HRR
        go_wp2_with (go_at_call 49; (with_reducible refine HP.out.mono ?_); rintro e w1 ⟨rfl, rfl⟩)
        all_goals go_ret
        all_goals exact ⟨by simp [*], rfl⟩
end Go.Proofs.YteadmakhcpjpnaaDoor.LineC
