/-
  wire.Get: the number that bytes begin with.
  Conditions: where the bytes lie.
-/
import Derived.Test.YtbbhinhledkceaaWire
import Derived.Test.YtbbhinhledkceaaBytesAt
import Derived.Test.YtbbhinhledkceaaBits
import Derived.IntWalk
import Derived.Lib.Hide
import Derived.Outline
namespace Go.Proofs.Ytbbhinhledkceaa.WireC
open Go.RowKit BA
set_option linter.unusedSimpArgs false
set_option linter.unusedVariables false

/-- What follows the first byte: the number, how many bytes, the fault. -/
def gl : List Int → Nat → Int → Int × Nat × Nat
  | [], _, _ => (0, 0, 8)
  | c :: r, i, n =>
    if 2147483647 < n + c % 128 * 2 ^ (7 * i) ∨ (i = 4 ∧ 128 ≤ c) then (0, 0, 10)
    else if 0 < i ∧ c = 0 then (0, 0, 2)
    else if c < 128 then (n + c % 128 * 2 ^ (7 * i), i + 2, 0)
    else gl r (i + 1) (n + c % 128 * 2 ^ (7 * i))
/-- The number that bytes begin with. -/
def getS (b : List Int) (p : Nat) : Int × Nat × Nat :=
  match b with
  | [] => (0, 0, 8)
  | z :: r => if z % 2 ^ p < 2 ^ p - 1 then (z % 2 ^ p, 1, 0) else gl r 0 (z % 2 ^ p)
def errV (e : Nat) : Value := if e = 0 then .nilIface else .iface 49 (.int .i64 e)
theorem tail_back (f : Nat) : ∀ (n : Int) (rest : List Int) (i : Nat) (s : Int), 0 ≤ n → n < 128 ^ (f + 1) → i + f ≤ 4 → 0 ≤ s → (0 < i → 0 < n) → s + n * 2 ^ (7 * i) ≤ 2147483647 → gl (tailF f n ++ rest) i s = (s + n * 2 ^ (7 * i), i + 1 + (tailF f n).length, 0) := by
  induction f with
  | zero =>
    intro n rest i s h0 h1 hi hs hp hm
    have hn : n < 128 := by simpa using h1
    rw [tail_end 0 n hn]
    show gl (n :: rest) i s = _
    have e : n % 128 = n := by omega
    rw [gl, e, if_neg (by omega), if_neg (by omega), if_pos hn]
    rfl
  | succ f ih =>
    intro n rest i s h0 h1 hi hs hp hm
    by_cases hn : n < 128
    · rw [tail_end (f + 1) n hn]
      show gl (n :: rest) i s = _
      have e : n % 128 = n := by omega
      rw [gl, e, if_neg (by omega), if_neg (by omega), if_pos hn]
      rfl
    · obtain ⟨f', hf', ht, hb⟩ := tail_step (f + 1) n (by omega) h1
      obtain rfl : f' = f := by omega
      rw [ht]
      show gl ((n % 128 + 128) :: (tailF f' (n / 128) ++ rest)) i s = _
      have e : (n % 128 + 128) % 128 = n % 128 := by omega
      have hP : (0 : Int) < 2 ^ (7 * i) := Int.pow_pos (by decide)
      have e2 : (2 : Int) ^ (7 * (i + 1)) = 2 ^ (7 * i) * 128 := by rw [show 7 * (i + 1) = 7 * i + 7 by omega, Int.pow_add]; rfl
      rw [gl, e]
      generalize (2 : Int) ^ (7 * i) = P at *
      have hsplit : n * P = n % 128 * P + n / 128 * (P * 128) := by
        have h3 : n = n % 128 + n / 128 * 128 := by omega
        calc n * P = (n % 128 + n / 128 * 128) * P := by rw [← h3]
          _ = n % 128 * P + n / 128 * (P * 128) := by rw [Int.add_mul, Int.mul_assoc, Int.mul_comm 128 P]
      have hq : 0 ≤ n / 128 * (P * 128) := Int.mul_nonneg (by omega) (by omega)
      have hr : 0 ≤ n % 128 * P := Int.mul_nonneg (by omega) (by omega)
      rw [if_neg (by omega), if_neg (by omega), if_neg (by omega)]
      rw [ih (n / 128) rest (i + 1) (s + n % 128 * P) (by omega) hb (by omega) (by omega) (by omega) (by rw [e2]; omega), e2]
      simp only [List.length_cons, Prod.mk.injEq, and_true]
      omega
theorem get_told {n : Int} {p : Nat} {first : Int} {rest : List Int} (hp1 : 1 ≤ p) (hp2 : p ≤ 8) (h0 : 0 ≤ n) (h1 : n ≤ 2147483647) (hf : first % 2 ^ p = 0) : getS (putL n p first ++ rest) p = (n, (putL n p first).length, 0) := by
  have hP : (2 : Int) ≤ 2 ^ p := by
    have h2 : ∀ k : Fin 9, 1 ≤ k.1 → (2 : Int) ≤ 2 ^ k.1 := by decide
    exact h2 ⟨p, by omega⟩ hp1
  have hmask : mask (p : Int) = 2 ^ p - 1 := by unfold mask; rw [Int.toNat_natCast]
  unfold putL
  rw [hmask]
  have key : ∀ x : Int, 0 ≤ x → x < 2 ^ p → (first + x) % 2 ^ p = x := fun x h2 h3 => by
    rw [Int.add_emod, hf, Int.zero_add, Int.emod_emod_of_dvd _ (Int.dvd_refl _), Int.emod_eq_of_lt h2 h3]
  by_cases hn : n < 2 ^ p - 1
  · rw [if_pos hn]
    show getS ((first + n) :: rest) p = _
    unfold getS
    simp only
    rw [key n h0 (by omega), if_pos hn]
    rfl
  · rw [if_neg hn]
    show getS ((first + (2 ^ p - 1)) :: (tailF 4 (n - (2 ^ p - 1)) ++ rest)) p = _
    unfold getS
    simp only
    rw [key (2 ^ p - 1) (by omega) (by omega), if_neg (by omega), tail_back 4 (n - (2 ^ p - 1)) rest 0 (2 ^ p - 1) (by omega) (by have : (128 : Int) ^ (4 + 1) = 34359738368 := rfl; omega) (by omega) (by omega) (by omega) (by simp; omega)]
    simp only [List.length_cons, Prod.mk.injEq, and_true]
    refine ⟨?_, by omega⟩
    rw [Nat.mul_zero]
    show 2 ^ p - 1 + (n - (2 ^ p - 1)) * 1 = n
    omega
theorem gl_over {c : Int} {r : List Int} {i : Nat} {n : Int} (h : 2147483647 < n + c % 128 * 2 ^ (7 * i) ∨ (i = 4 ∧ 128 ≤ c)) : gl (c :: r) i n = (0, 0, 10) := by rw [gl, if_pos h]
theorem gl_syn {c : Int} {r : List Int} {i : Nat} {n : Int} (h : ¬ (2147483647 < n + c % 128 * 2 ^ (7 * i) ∨ (i = 4 ∧ 128 ≤ c))) (h2 : 0 < i ∧ c = 0) : gl (c :: r) i n = (0, 0, 2) := by rw [gl, if_neg h, if_pos h2]
theorem gl_end {c : Int} {r : List Int} {i : Nat} {n : Int} (h : ¬ (2147483647 < n + c % 128 * 2 ^ (7 * i) ∨ (i = 4 ∧ 128 ≤ c))) (h2 : ¬ (0 < i ∧ c = 0)) (h3 : c < 128) : gl (c :: r) i n = (n + c % 128 * 2 ^ (7 * i), i + 2, 0) := by rw [gl, if_neg h, if_neg h2, if_pos h3]
theorem gl_step {c : Int} {r : List Int} {i : Nat} {n : Int} (h : ¬ (2147483647 < n + c % 128 * 2 ^ (7 * i) ∨ (i = 4 ∧ 128 ≤ c))) (h2 : ¬ (0 < i ∧ c = 0)) (h3 : ¬ c < 128) : gl (c :: r) i n = gl r (i + 1) (n + c % 128 * 2 ^ (7 * i)) := by rw [gl, if_neg h, if_neg h2, if_neg h3]
theorem mask_i7 (x : Int) (h0 : 0 ≤ x) (h1 : x ≤ 255) : bits .and .i64 x 127 = x % 128 := by
  have := BitsL.mask_i64 7 (by decide) x h0 (by omega)
  simpa using this
theorem mask_u7 (x : Int) (h0 : 0 ≤ x) (h1 : x ≤ 255) : bits .and .u8 x 127 = x % 128 := by
  have := BitsL.mask_u8 7 (by decide) x h0 (by omega)
  simpa using this
set_option maxRecDepth 100000 in
set_option maxHeartbeats 4000000 in
theorem wget_any (p : Nat) (hp : p = 4 ∨ p = 5 ∨ p = 6 ∨ p = 7) (v : Value) (b : List Int) (w : World) (hv : BytesAt w v b) (hz : ∀ z ∈ b, 0 ≤ z ∧ z ≤ 255) (hl : b.length ≤ 1099511627776) :
    Calls Try.prog 35 #[v, .int .i64 p] w fun e w' => e = .returned (.tuple #[.int .i64 (getS b p).1, .int .i64 (getS b p).2.1, errV (getS b p).2.2]) ∧ w = w' := by
  obtain ⟨a, L, cap, rfl, hL, hcap⟩ : ∃ a L c, v = .slice a L c ∧ b.length = L ∧ L ≤ c := by obtain ⟨x, c, e, h1, -⟩ := hv.open; exact ⟨_, _, _, e, rfl, h1⟩
  obtain ⟨G, hG⟩ : ∃ G, getS b p = G := ⟨_, rfl⟩
  rw [hG]
  have HG := Lib.hid hG
  have HL := Lib.hid hL
  have HZ := Lib.hid hz
  have HEL : Hid (∀ i, i < b.length → ∃ g off, a = some ⟨g, off, none⟩ ∧ w.cell? ⟨g, off + i, none⟩ = some (.int .u8 (b.getD i 0))) := fun i hi => by
    obtain ⟨a1, c1, e, -, -, -, hel⟩ := hv.open
    simp only [Value.slice.injEq] at e
    obtain ⟨rfl, rfl, rfl⟩ := e
    obtain ⟨g, off, e1, -, e2⟩ := hel i hi
    exact ⟨g, off, e1, e2⟩
  rw [hL] at hl
  clear hG hL hz hv
  have hP1 : (2 : Int) ^ p ≤ 128 := by rcases hp with rfl | rfl | rfl | rfl <;> decide
  have hP0 : (16 : Int) ≤ (2 : Int) ^ p := by rcases hp with rfl | rfl | rfl | rfl <;> decide
  have hp4 : 4 ≤ p := by omega
  have hp7 : p ≤ 7 := by omega
  by_cases hL0 : L = 0
  · subst hL0
    have hb : b = [] := List.eq_nil_of_length_eq_zero HL.out
    have hg : G = (0, 0, 8) := by rw [← HG.out, hb]; rfl
    subst hg
    go_enter Try.func35, Try.ntmps35
    go_wp2
    go_ret3
    exact ⟨rfl, rfl⟩
  · obtain ⟨z, r, hb⟩ : ∃ z r, b = z :: r := by
      cases b with
      | nil => exact absurd HL.out.symm hL0
      | cons z r => exact ⟨z, r, rfl⟩
    obtain ⟨m, hm⟩ : ∃ m, r.length = m := ⟨_, rfl⟩
    obtain rfl : L = m + 1 := by rw [← HL.out, hb, ← hm]; rfl
    have HM := Lib.hid hm
    obtain ⟨g, off, rfl, hc0⟩ := HEL.out 0 (by rw [HL.out]; omega)
    have hz0 : b.getD 0 0 = z := by rw [hb]; rfl
    rw [hz0, Nat.add_zero] at hc0
    obtain ⟨hza, hzb⟩ := HZ.out z (by rw [hb]; exact List.mem_cons_self)
    have HB := Lib.hid hb
    have hmk : bits .and .i64 z (2 ^ p - 1) = z % 2 ^ p := BitsL.mask_i64 p (by omega) z hza (by omega)
    have hzm0 : 0 ≤ z % 2 ^ p := Int.emod_nonneg _ (by omega)
    have hzm1 : z % 2 ^ p < 2 ^ p := Int.emod_lt_of_pos _ (by omega)
    have HGS : Hid (getS b p = if z % 2 ^ p < 2 ^ p - 1 then (z % 2 ^ p, 1, 0) else gl r 0 (z % 2 ^ p)) := by show getS b p = _; rw [HB.out]; rfl
    clear hb hz0 hL0 hm
    by_cases hlt : z % 2 ^ p < 2 ^ p - 1
    · have hg : G = (z % 2 ^ p, 1, 0) := by rw [← HG.out, HGS.out, if_pos hlt]
      have HGG := Lib.hid hg
      clear hg
      go_enter Try.func35, Try.ntmps35
      go_wp2
      go_ret3
      rw [HGG.out]
      exact ⟨rfl, rfl⟩
    · have hg : gl r 0 (z % 2 ^ p) = G := by rw [← HG.out, HGS.out, if_neg hlt]
      have HGG := Lib.hid hg
      have hge : 2 ^ p - 1 ≤ z % 2 ^ p := by omega
      clear hg hlt
      by_cases hc1 : cap = 1
      · have hm0 : m = 0 := by omega
        subst hm0 hc1
        have hr : r = [] := List.eq_nil_of_length_eq_zero HM.out
        have hgg : G = (0, 0, 8) := by rw [← HGG.out, hr]; rfl
        have HG3 := Lib.hid hgg
        clear hgg hr
        go_enter Try.func35, Try.ntmps35
        go_wp2
        go_loop [4, 37] (fun nv iv => iv = .int .i64 0) (fun _ _ => 0)
        case atStart => rfl
        case round =>
          obtain rfl := hrel
          go_wp2
          go_ret3
          rw [HG3.out]
          exact ⟨rfl, rfl⟩
      · have hcap2 : ¬ ((cap : Int) = 1) := by omega
        go_enter Try.func35, Try.ntmps35
        go_wp2
        go_loop [4, 37] (fun nv iv => ∃ (i : Nat) (n : Int), nv = .int .i64 n ∧ iv = .int .i64 i ∧ i ≤ m ∧ i ≤ 4 ∧ 0 ≤ n ∧ n ≤ 2147483647 ∧ Hid (gl (r.drop i) i n = G)) (fun _ iv => m - (intOf iv).toNat)
        case atStart => exact ⟨0, z % 2 ^ p, rfl, rfl, by omega, by omega, hzm0, by omega, HGG.out⟩
        case round =>
          obtain ⟨i, n, rfl, rfl, him, hi4, hn0, hn1, HK⟩ := hrel
          by_cases hlt : i < m
          · obtain ⟨g1, off1, e1, hci⟩ := HEL.out (i + 1) (by rw [HL.out]; omega)
            simp only [Option.some.injEq, Addr.mk.injEq, and_true] at e1
            obtain ⟨rfl, rfl⟩ := e1
            obtain ⟨c, hc⟩ : ∃ c, r[i]'(by rw [HM.out]; exact hlt) = c := ⟨_, rfl⟩
            have hbc : b.getD (i + 1) 0 = c := by
              rw [HB.out, ← hc]
              simp [List.getD, show i < r.length from by rw [HM.out]; exact hlt]
            rw [hbc, show off + (i + 1) = off + 1 + i by omega] at hci
            obtain ⟨hca, hcb⟩ := HZ.out c (by rw [HB.out, ← hc]; exact List.mem_cons_of_mem _ (List.getElem_mem _))
            have HDR : Hid (r.drop i = c :: r.drop (i + 1)) := by show _ = _; rw [List.drop_eq_getElem_cons (by rw [HM.out]; exact hlt), hc]
            have hmc := mask_u7 c hca hcb
            have HC := Lib.hid hc
            have hil : (i : Int) < (m : Int) := by omega
            clear hc hbc
            obtain ⟨D, hD⟩ : ∃ D, c % 128 * 2 ^ (7 * i) = D := ⟨_, rfl⟩
            have HD := Lib.hid hD
            have hP4 : (2 : Int) ^ (7 * i) ≤ 268435456 := by
              have h2 : ∀ k : Fin 5, (2 : Int) ^ (7 * k.1) ≤ 268435456 := by decide
              exact h2 ⟨i, by omega⟩
            have hP5 : (0 : Int) < (2 : Int) ^ (7 * i) := Int.pow_pos (by decide)
            have hDb : 0 ≤ D ∧ D ≤ 34091302912 := by
              rw [← hD]
              generalize (2 : Int) ^ (7 * i) = P at *
              have h3 : 0 ≤ c % 128 ∧ c % 128 ≤ 127 := by omega
              exact ⟨Int.mul_nonneg h3.1 (by omega), Int.le_trans (Int.mul_le_mul h3.2 hP4 (by omega) (by decide)) (by decide)⟩
            obtain ⟨hD0, hD1⟩ := hDb
            have hw1 : wrap64 (c % 128 * 2 ^ (7 * i)) = D := by rw [hD]; unfold wrap64; omega
            have hw2 : wrap64 (n + D) = n + D := by unfold wrap64; omega
            clear hD hP4 hP5
            by_cases h1 : 2147483647 < n + D
            · have hg : G = (0, 0, 10) := by rw [← HK.out, HDR.out]; exact gl_over (.inl (by rw [HD.out]; exact h1))
              have HG3 := Lib.hid hg
              clear hg
              go_wp2
              go_ret3
              rw [HG3.out]
              exact ⟨rfl, rfl⟩
            · have hcase : (i = 4 ∧ 128 ≤ c) ∨ (i = 4 ∧ c = 0) ∨ (i = 4 ∧ 0 < c ∧ c < 128) ∨ (0 < i ∧ i < 4 ∧ c = 0) ∨ (0 < i ∧ i < 4 ∧ 0 < c ∧ c < 128) ∨ (i = 0 ∧ c < 128) ∨ (i = 0 ∧ 128 ≤ c) ∨ (0 < i ∧ i < 4 ∧ 128 ≤ c) := by omega
              rcases hcase with hh | hh | hh | hh | hh | hh | hh | hh
              · have hg : G = (0, 0, 10) := by rw [← HK.out, HDR.out]; exact gl_over (.inr (by omega))
                have t1 : ((i : Int) == 4) = true := by rw [show i = 4 by omega]; rfl
                have t2 : (0 : Int) < (i : Int) := by omega
                have u1 : (128 : Int) ≤ c := by omega
                have u2 : (c == 0) = false := beq_eq_false_iff_ne.2 (by omega)
                clear hh
                have HG3 := Lib.hid hg
                clear hg
                go_wp2
                go_ret3
                rw [HG3.out]
                exact ⟨rfl, rfl⟩
              · have hg : G = (0, 0, 2) := by rw [← HK.out, HDR.out]; exact gl_syn (by rw [HD.out]; omega) (by omega)
                have t1 : ((i : Int) == 4) = true := by rw [show i = 4 by omega]; rfl
                have t2 : (0 : Int) < (i : Int) := by omega
                have u1 : c < 128 := by omega
                have u2 : (c == 0) = true := by rw [show c = 0 by omega]; rfl
                clear hh
                have HG3 := Lib.hid hg
                clear hg
                go_wp2
                go_ret3
                rw [HG3.out]
                exact ⟨rfl, rfl⟩
              · have hg : G = (n + D, i + 2, 0) := by rw [← HK.out, HDR.out, gl_end (by rw [HD.out]; omega) (by omega) (by omega), HD.out]
                have t1 : ((i : Int) == 4) = true := by rw [show i = 4 by omega]; rfl
                have t2 : (0 : Int) < (i : Int) := by omega
                have u1 : c < 128 := by omega
                have u2 : (c == 0) = false := beq_eq_false_iff_ne.2 (by omega)
                clear hh
                have HG3 := Lib.hid hg
                clear hg
                go_wp2
                go_ret3
                rw [HG3.out]
                exact ⟨rfl, rfl⟩
              · have hg : G = (0, 0, 2) := by rw [← HK.out, HDR.out]; exact gl_syn (by rw [HD.out]; omega) (by omega)
                have t1 : ((i : Int) == 4) = false := beq_eq_false_iff_ne.2 (by omega)
                have t2 : (0 : Int) < (i : Int) := by omega
                have u1 : c < 128 := by omega
                have u2 : (c == 0) = true := by rw [show c = 0 by omega]; rfl
                clear hh
                have HG3 := Lib.hid hg
                clear hg
                go_wp2
                go_ret3
                rw [HG3.out]
                exact ⟨rfl, rfl⟩
              · have hg : G = (n + D, i + 2, 0) := by rw [← HK.out, HDR.out, gl_end (by rw [HD.out]; omega) (by omega) (by omega), HD.out]
                have t1 : ((i : Int) == 4) = false := beq_eq_false_iff_ne.2 (by omega)
                have t2 : (0 : Int) < (i : Int) := by omega
                have u1 : c < 128 := by omega
                have u2 : (c == 0) = false := beq_eq_false_iff_ne.2 (by omega)
                clear hh
                have HG3 := Lib.hid hg
                clear hg
                go_wp2
                go_ret3
                rw [HG3.out]
                exact ⟨rfl, rfl⟩
              · have hg : G = (n + D, i + 2, 0) := by rw [← HK.out, HDR.out, gl_end (by rw [HD.out]; omega) (by omega) (by omega), HD.out]
                have t1 : ((i : Int) == 4) = false := beq_eq_false_iff_ne.2 (by omega)
                have t2 : ¬ (0 : Int) < (i : Int) := by omega
                have u1 : c < 128 := by omega
                clear hh
                have HG3 := Lib.hid hg
                clear hg
                go_wp2
                go_ret3
                rw [HG3.out]
                exact ⟨rfl, rfl⟩
              · have hg : gl (r.drop (i + 1)) (i + 1) (n + D) = G := by rw [← HK.out, HDR.out, gl_step (by rw [HD.out]; omega) (by omega) (by omega), HD.out]
                have t1 : ((i : Int) == 4) = false := beq_eq_false_iff_ne.2 (by omega)
                have t2 : ¬ (0 : Int) < (i : Int) := by omega
                have u1 : (128 : Int) ≤ c := by omega
                have u2 : (c == 0) = false := beq_eq_false_iff_ne.2 (by omega)
                have u3 : i < 4 := by omega
                have HG3 := Lib.hid hg
                clear hg hh
                go_wp2
                go_round
                case rel => first | exact ⟨i + 1, n + D, rfl, by go_num, by omega, by omega, by omega, by omega, HG3.out⟩ | exact ⟨_, _, _, _, _, _, ⟨i + 1, n + D, rfl, by go_num, by omega, by omega, by omega, by omega, HG3.out⟩, rfl, rfl, rfl, rfl, rfl, rfl⟩
                case measure => simp [intOf]; omega
              · have hg : gl (r.drop (i + 1)) (i + 1) (n + D) = G := by rw [← HK.out, HDR.out, gl_step (by rw [HD.out]; omega) (by omega) (by omega), HD.out]
                have t1 : ((i : Int) == 4) = false := beq_eq_false_iff_ne.2 (by omega)
                have t2 : (0 : Int) < (i : Int) := by omega
                have u1 : (128 : Int) ≤ c := by omega
                have u2 : (c == 0) = false := beq_eq_false_iff_ne.2 (by omega)
                have u3 : i < 4 := by omega
                have HG3 := Lib.hid hg
                clear hg hh
                go_wp2
                go_round
                case rel => first | exact ⟨i + 1, n + D, rfl, by go_num, by omega, by omega, by omega, by omega, HG3.out⟩ | exact ⟨_, _, _, _, _, _, ⟨i + 1, n + D, rfl, by go_num, by omega, by omega, by omega, by omega, HG3.out⟩, rfl, rfl, rfl, rfl, rfl, rfl⟩
                case measure => simp [intOf]; omega
          · obtain rfl : i = m := by omega
            have hgg : G = (0, 0, 8) := by rw [← HK.out, List.drop_of_length_le (by rw [HM.out]; omega)]; rfl
            have HG3 := Lib.hid hgg
            clear hgg
            go_wp2
            go_ret3
            rw [HG3.out]
            exact ⟨rfl, rfl⟩
end Go.Proofs.Ytbbhinhledkceaa.WireC
