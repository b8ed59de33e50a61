/-
  What is joined by one byte is split into what it was; a number in digits is read as it was. Plain: no program.
  Conditions: the byte stands in none of the parts.
-/
import Derived.Lib.Split
import Derived.Lib.Join
import Derived.Lib.AtoiAllCases
import Derived.Lib.ItoaNum
namespace Go.Proofs.YtooplackonnemaaDoor.LogP
open Go.Lib
set_option linter.unusedVariables false
set_option linter.unusedSimpArgs false

theorem index_mid (p r : List UInt8) (c : UInt8) (h : c ∉ p) : index (p ++ c :: r) [c] = (p.length : Nat) := by
  refine index_first (by simp) ?_ (fun j hj => ?_)
  · simp [occAt]
  · simp only [occAt]
    have hj2 : (p ++ c :: r)[j]? = some p[j] := by rw [List.getElem?_append_left hj, List.getElem?_eq_getElem hj]
    rw [show (p ++ c :: r).drop j = p[j] :: (p ++ c :: r).drop (j + 1) from by
      rw [List.drop_eq_getElem_cons (by simp; omega)]
      congr 1
      rw [List.getElem_append_left hj]]
    have hne : ¬ c = p[j] := fun e => h (e ▸ List.getElem_mem hj)
    simp [List.isPrefixOf, hne]
theorem index_not (p : List UInt8) (c : UInt8) (h : c ∉ p) : index p [c] = -1 := by
  refine index_none (fun j hj => ?_)
  simp only [occAt]
  by_cases hlt : j < p.length
  · rw [List.drop_eq_getElem_cons hlt]
    have hne : ¬ c = p[j] := fun e => h (e ▸ List.getElem_mem hlt)
    simp [List.isPrefixOf, hne]
  · rw [List.drop_eq_nil_of_le (by omega)]; rfl
theorem mem_first {c : UInt8} : ∀ {s : List UInt8}, c ∈ s → ∃ p r, s = p ++ c :: r ∧ c ∉ p
  | [], h => absurd h (by simp)
  | x :: s, h => by
    by_cases hx : c = x
    · exact ⟨[], s, by rw [hx]; rfl, by simp⟩
    · obtain ⟨p, r, rfl, hp⟩ := mem_first ((List.mem_cons.1 h).resolve_left hx)
      exact ⟨x :: p, r, rfl, by simp [hx, hp]⟩
theorem split_cons (p r : List UInt8) (c : UInt8) (h : c ∉ p) : split (p ++ c :: r) [c] = p :: split r [c] := by
  have hi := index_mid p r c h
  have hc := count_hit (s := p ++ c :: r) (sub := [c]) (by simp) hi
  have hd : (p ++ c :: r).drop (p.length + [c].length) = r := by
    rw [show p ++ c :: r = (p ++ [c]) ++ r from by simp, List.drop_left' (by simp)]
  rw [hd] at hc
  show splitK [c] 0 (count (p ++ c :: r) [c]) (p ++ c :: r) = p :: splitK [c] 0 (count r [c]) r
  rw [hc, Nat.add_comm 1]
  rw [splitK]
  have hne : ¬ (index (p ++ c :: r) [c] == -1) = true := by rw [hi]; intro e; have := beq_iff_eq.1 e; omega
  rw [if_neg hne, hi]
  have e1 : (p ++ c :: r).take (((p.length : Nat) : Int).toNat + 0) = p := by
    rw [show ((p.length : Nat) : Int).toNat + 0 = p.length from by omega, List.take_left' rfl]
  have e2 : (p ++ c :: r).drop (((p.length : Nat) : Int).toNat + [c].length) = r := by
    rw [show ((p.length : Nat) : Int).toNat + [c].length = p.length + [c].length from by omega, hd]
  rw [e1, e2]
theorem split_last (p : List UInt8) (c : UInt8) (h : c ∉ p) : split p [c] = [p] := by
  unfold split
  rw [count_miss (index_not p c h)]
  rfl
theorem split_join (c : UInt8) : ∀ (ps : List (List UInt8)), ps ≠ [] → (∀ p ∈ ps, c ∉ p) → split (join ps [c]) [c] = ps
  | [], h, _ => absurd rfl h
  | [p], _, h => by rw [join_one]; exact split_last p c (h p (by simp))
  | p :: q :: r, _, h => by
    have e : join (p :: q :: r) [c] = p ++ c :: join (q :: r) [c] := by
      rw [join_cons, join_cons]; simp [joinTail]
    rw [e, split_cons p _ c (h p (by simp)), split_join c (q :: r) (by simp) (fun x hx => h x (List.mem_cons_of_mem _ hx))]
/-- What is split by one byte holds it nowhere, and joined again is what it was. -/
theorem join_split (c : UInt8) : ∀ (n : Nat) (s : List UInt8), s.length ≤ n → join (split s [c]) [c] = s ∧ ∀ p ∈ split s [c], c ∉ p := by
  intro n
  induction n with
  | zero =>
    intro s hs
    obtain rfl := List.eq_nil_of_length_eq_zero (Nat.le_zero.1 hs)
    rw [split_last [] c (by simp)]
    exact ⟨join_one _ _, fun p hp => by obtain rfl := List.mem_singleton.1 hp; simp⟩
  | succ n ih =>
    intro s hs
    by_cases hc : c ∈ s
    · obtain ⟨p, r, rfl, hp⟩ := mem_first hc
      rw [split_cons p r c hp]
      obtain ⟨h1, h2⟩ := ih r (by simp at hs; omega)
      refine ⟨?_, fun q hq => ?_⟩
      · obtain ⟨y, ys, hy⟩ : ∃ y ys, split r [c] = y :: ys := by
          cases e : split r [c] with
          | nil => exfalso; have : (split r [c]).length = 0 := by rw [e]; rfl
                   unfold split at this; revert this; cases count r [c] with
                   | zero => simp [splitK]
                   | succ k => unfold splitK; split <;> simp
          | cons y ys => exact ⟨y, ys, rfl⟩
        rw [hy] at h1 ⊢
        have e : join (p :: y :: ys) [c] = p ++ c :: join (y :: ys) [c] := by
          rw [join_cons, join_cons]; simp [joinTail]
        rw [e, h1]
      · rcases List.mem_cons.1 hq with rfl | h
        · exact hp
        · exact h2 q h
    · rw [split_last s c hc]
      exact ⟨join_one _ _, fun p hp => by obtain rfl := List.mem_singleton.1 hp; exact hc⟩
/-- What strconv.Atoi's first result is. -/
def atoiV (l : List UInt8) : Int := match atoiAll l with
  | .ok v => v
  | .syntax => 0
  | .range => atoiSat l
theorem parse_digits : ∀ (n : Nat), n ≤ 100000000 → ∀ r, parseUint10 0 (decDigits n ++ r) = parseUint10 n r := by
  intro n
  induction n using Nat.strongRecOn with
  | ind n ih =>
    intro hn r
    by_cases h : n < 10
    · rw [decDigits, dif_pos h]
      simp only [List.singleton_append, parseUint10]
      have e : (UInt8.ofNat (48 + n)).toNat = 48 + n := by simp; omega
      rw [e, if_pos (by omega), if_neg (by omega), if_neg (by omega)]
      congr 1
      omega
    · rw [decDigits, dif_neg h, List.append_assoc, ih (n / 10) (by omega) (by omega)]
      simp only [List.singleton_append, parseUint10]
      have e : (UInt8.ofNat (48 + n % 10)).toNat = 48 + n % 10 := by simp; omega
      rw [e, if_pos (by omega), if_neg (by omega), if_neg (by omega)]
      congr 1
      omega
theorem digits_digit : ∀ (n : Nat), ∀ c ∈ decDigits n, 48 ≤ c.toNat ∧ c.toNat ≤ 57 := by
  intro n
  induction n using Nat.strongRecOn with
  | ind n ih =>
    intro c hc
    by_cases h : n < 10
    · rw [decDigits, dif_pos h] at hc
      obtain rfl := List.mem_singleton.1 hc
      simp; omega
    · rw [decDigits, dif_neg h] at hc
      rcases List.mem_append.1 hc with hc | hc
      · exact ih (n / 10) (by omega) c hc
      · obtain rfl := List.mem_singleton.1 hc
        simp; omega
theorem digits_ne (n : Nat) : decDigits n ≠ [] := by
  rw [decDigits]
  split
  · simp
  · simp
theorem digits_len : ∀ (k n : Nat), n < 10 ^ (k + 1) → (decDigits n).length ≤ k + 1
  | 0, n, h => by rw [decDigits, dif_pos (by omega)]; simp
  | k + 1, n, h => by
    by_cases h1 : n < 10
    · rw [decDigits, dif_pos h1]; simp
    · rw [decDigits, dif_neg h1, List.length_append]
      have := digits_len k (n / 10) (by rw [Nat.pow_succ] at h; omega)
      simp; omega
theorem atoi_itoa (n : Int) (h0 : 0 ≤ n) (h1 : n ≤ 100000000) : atoiV (itoa n) = n := by
  obtain ⟨m, rfl⟩ := Int.eq_ofNat_of_zero_le h0
  have e : itoa (m : Int) = decDigits m := by simp [itoa]
  rw [e]
  obtain ⟨c, r, hcr⟩ : ∃ c r, decDigits m = c :: r := by
    cases hd : decDigits m with
    | nil => exact absurd hd (digits_ne m)
    | cons c r => exact ⟨c, r, rfl⟩
  have hc := digits_digit m c (by rw [hcr]; simp)
  have hp := parse_digits m (by omega) []
  rw [List.append_nil, hcr] at hp
  unfold atoiV
  rw [hcr, atoiAll_plain c r (by omega) (by omega)]
  unfold parseMag
  rw [if_neg (by simp), hp]
  simp only [parseUint10, signless]
  rw [if_neg (by omega)]
theorem itoa_blank (n : Int) (h0 : 0 ≤ n) : (32 : UInt8) ∉ itoa n := by
  obtain ⟨m, rfl⟩ := Int.eq_ofNat_of_zero_le h0
  have e : itoa (m : Int) = decDigits m := by simp [itoa]
  rw [e]
  intro h
  have := digits_digit m 32 h
  simp at this
end Go.Proofs.YtooplackonnemaaDoor.LogP
