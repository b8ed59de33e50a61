/-
  Package code in plain Lean: texts as bits, bits as bytes, and back.
  Conditions: none.
-/
import Derived.Test.YtbbhinhledkceaaCode
namespace Go.Proofs.Ytbbhinhledkceaa.CodeC
set_option linter.unusedVariables false
set_option linter.unusedSimpArgs false

/-- A bit of bytes, the high ones first; a number of so many bits. -/
def bitZ (l : List Int) (i : Nat) : Int := l.getD (i / 8) 0 / 2 ^ (7 - i % 8) % 2
def valZ (l : List Int) (n : Nat) : Nat → Int
  | 0 => 0
  | k + 1 => 2 * valZ l n k + bitZ l (n + k)
theorem bitZ_bd (l : List Int) (i : Nat) : 0 ≤ bitZ l i ∧ bitZ l i ≤ 1 := by unfold bitZ; omega
theorem valZ_bd (l : List Int) (n k : Nat) : 0 ≤ valZ l n k ∧ valZ l n k < 2 ^ k := by
  induction k with
  | zero => simp [valZ]
  | succ k ih =>
    have h := bitZ_bd l (n + k)
    have e : (2 : Int) ^ (k + 1) = 2 * 2 ^ k := by rw [Int.pow_succ]; omega
    rw [valZ, e]; omega
/-- Bits as a byte; as bytes. -/
def byteAt (B : List Int) (j : Nat) : Int :=
  B.getD (8 * j) 0 * 128 + B.getD (8 * j + 1) 0 * 64 + B.getD (8 * j + 2) 0 * 32 + B.getD (8 * j + 3) 0 * 16 + B.getD (8 * j + 4) 0 * 8 + B.getD (8 * j + 5) 0 * 4 + B.getD (8 * j + 6) 0 * 2 + B.getD (8 * j + 7) 0
def pk (B : List Int) : List Int := (List.range ((B.length + 7) / 8)).map (byteAt B)
theorem pk_len (B : List Int) : (pk B).length = (B.length + 7) / 8 := by simp [pk]
theorem pk_get (B : List Int) (j : Nat) (h : j < (B.length + 7) / 8) : (pk B).getD j 0 = byteAt B j := by
  simp [pk, List.getD, h]
def Bit (B : List Int) : Prop := ∀ k, B.getD k 0 = 0 ∨ B.getD k 0 = 1
theorem byteAt_bd {B : List Int} (h : Bit B) (j : Nat) : 0 ≤ byteAt B j ∧ byteAt B j ≤ 255 := by
  unfold byteAt
  have h0 := h (8 * j)
  have h1 := h (8 * j + 1)
  have h2 := h (8 * j + 2)
  have h3 := h (8 * j + 3)
  have h4 := h (8 * j + 4)
  have h5 := h (8 * j + 5)
  have h6 := h (8 * j + 6)
  have h7 := h (8 * j + 7)
  omega
theorem pk_bd {B : List Int} (h : Bit B) : ∀ z ∈ pk B, 0 ≤ z ∧ z ≤ 255 := by
  intro z hz
  obtain ⟨j, _, rfl⟩ := List.mem_map.1 hz
  exact byteAt_bd h j
/-- The bits of bytes made of bits are these bits. -/
theorem bit_pk {B : List Int} (h : Bit B) (i : Nat) (hi : i < 8 * ((B.length + 7) / 8)) : bitZ (pk B) i = B.getD i 0 := by
  unfold bitZ
  rw [pk_get B (i / 8) (by omega)]
  unfold byteAt
  have hb : ∀ k, 0 ≤ B.getD k 0 ∧ B.getD k 0 ≤ 1 := fun k => by have := h k; omega
  have h0 := hb (8 * (i / 8))
  have h1 := hb (8 * (i / 8) + 1)
  have h2 := hb (8 * (i / 8) + 2)
  have h3 := hb (8 * (i / 8) + 3)
  have h4 := hb (8 * (i / 8) + 4)
  have h5 := hb (8 * (i / 8) + 5)
  have h6 := hb (8 * (i / 8) + 6)
  have h7 := hb (8 * (i / 8) + 7)
  have hi2 : i = 8 * (i / 8) + i % 8 := by omega
  have hr : i % 8 = 0 ∨ i % 8 = 1 ∨ i % 8 = 2 ∨ i % 8 = 3 ∨ i % 8 = 4 ∨ i % 8 = 5 ∨ i % 8 = 6 ∨ i % 8 = 7 := by omega
  clear hb h hi
  generalize hq : i / 8 = q at *
  generalize hrr : i % 8 = r at *
  subst hi2
  clear hq hrr
  rcases hr with rfl | rfl | rfl | rfl | rfl | rfl | rfl | rfl
  all_goals
    simp only [Nat.add_zero, Nat.sub_zero, Nat.reduceSub]
    simp only [show (2 : Int) ^ 7 = 128 from rfl, show (2 : Int) ^ 6 = 64 from rfl, show (2 : Int) ^ 5 = 32 from rfl, show (2 : Int) ^ 4 = 16 from rfl, show (2 : Int) ^ 3 = 8 from rfl, show (2 : Int) ^ 2 = 4 from rfl, show (2 : Int) ^ 1 = 2 from rfl, show (2 : Int) ^ 0 = 1 from rfl]
    first | (generalize B.getD (8 * q) 0 = b0 at *; generalize B.getD (8 * q + 1) 0 = b1 at *; generalize B.getD (8 * q + 2) 0 = b2 at *; generalize B.getD (8 * q + 3) 0 = b3 at *; generalize B.getD (8 * q + 4) 0 = b4 at *; generalize B.getD (8 * q + 5) 0 = b5 at *; generalize B.getD (8 * q + 6) 0 = b6 at *; generalize B.getD (8 * q + 7) 0 = b7 at *; omega)
theorem getD_snoc (B : List Int) (t : Int) (k : Nat) : (B ++ [t]).getD k 0 = if k < B.length then B.getD k 0 else if k = B.length then t else 0 := by
  by_cases h : k < B.length
  · rw [if_pos h]; simp [List.getD, List.getElem?_append, h]
  · rw [if_neg h]
    by_cases h2 : k = B.length
    · subst h2; simp [List.getD]
    · rw [if_neg h2]
      simp only [List.getD]
      rw [List.getElem?_eq_none (by simp; omega)]; rfl
theorem getD_big (B : List Int) (k : Nat) (h : B.length ≤ k) : B.getD k 0 = 0 := by
  simp only [List.getD]
  rw [List.getElem?_eq_none h]; rfl
theorem bit_snoc {B : List Int} (h : Bit B) {t : Int} (ht : t = 0 ∨ t = 1) : Bit (B ++ [t]) := fun k => by
  rw [getD_snoc]
  split
  · exact h k
  · split
    · exact ht
    · exact .inl rfl
theorem bit_nil : Bit [] := fun k => .inl (by simp)
theorem bit_app {A B : List Int} (hA : Bit A) (hB : ∀ z ∈ B, z = 0 ∨ z = 1) : Bit (A ++ B) := fun k => by
  by_cases h : k < A.length
  · have := hA k
    simpa [List.getD, List.getElem?_append, h] using this
  · by_cases h2 : k - A.length < B.length
    · have := hB B[k - A.length] (List.getElem_mem _)
      simpa [List.getD, List.getElem?_append, h, h2] using this
    · left
      rw [getD_big _ _ (by simp; omega)]
theorem byteAt_snoc (B : List Int) (t : Int) (j : Nat) : byteAt (B ++ [t]) j = if j = B.length / 8 then byteAt B j + t * 2 ^ (7 - B.length % 8) else byteAt B j := by
  unfold byteAt
  simp only [getD_snoc]
  have hz : ∀ k, B.length ≤ k → B.getD k 0 = 0 := getD_big B
  generalize B.length = n at *
  by_cases hj : j = n / 8
  · rw [if_pos hj]
    have hr : n % 8 = 0 ∨ n % 8 = 1 ∨ n % 8 = 2 ∨ n % 8 = 3 ∨ n % 8 = 4 ∨ n % 8 = 5 ∨ n % 8 = 6 ∨ n % 8 = 7 := by omega
    rcases hr with hr | hr | hr | hr | hr | hr | hr | hr
    all_goals
      obtain ⟨q, hq⟩ : ∃ q, n = 8 * q + n % 8 := ⟨n / 8, by omega⟩
      rw [hr] at hq
      have hjq : j = q := by omega
      subst hq hjq
      rw [hr]
      simp (disch := omega) only [hz, if_pos, if_neg]
      simp only [Nat.sub_zero, Nat.reduceSub, show (2 : Int) ^ 7 = 128 from rfl, show (2 : Int) ^ 6 = 64 from rfl, show (2 : Int) ^ 5 = 32 from rfl, show (2 : Int) ^ 4 = 16 from rfl, show (2 : Int) ^ 3 = 8 from rfl, show (2 : Int) ^ 2 = 4 from rfl, show (2 : Int) ^ 1 = 2 from rfl, show (2 : Int) ^ 0 = 1 from rfl, if_true]
      try omega
  · rw [if_neg hj]
    have h1 : ∀ i, i < 8 → 8 * j + i ≠ n := fun i hi => by omega
    have h2 : ∀ i, i < 8 → (if 8 * j + i < n then B.getD (8 * j + i) 0 else if 8 * j + i = n then t else 0) = B.getD (8 * j + i) 0 := fun i hi => by
      by_cases h : 8 * j + i < n
      · rw [if_pos h]
      · rw [if_neg h, if_neg (h1 i hi), hz _ (by omega)]
    have h20 := h2 0 (by decide)
    rw [Nat.add_zero] at h20
    rw [h20, h2 1 (by decide), h2 2 (by decide), h2 3 (by decide), h2 4 (by decide), h2 5 (by decide), h2 6 (by decide), h2 7 (by decide)]
/-- One bit more. -/
theorem pk_snoc (B : List Int) (t : Int) : pk (B ++ [t]) = (if B.length % 8 = 0 then pk B ++ [0] else pk B).set (B.length / 8) ((if B.length % 8 = 0 then pk B ++ [0] else pk B).getD (B.length / 8) 0 + t * 2 ^ (7 - B.length % 8)) := by
  apply List.ext_getElem?
  intro j
  have hl : (if B.length % 8 = 0 then pk B ++ [0] else pk B).length = (B.length + 1 + 7) / 8 := by
    split
    · rw [List.length_append, pk_len, List.length_singleton]; omega
    · rw [pk_len]; omega
  have hg : ∀ i, (if B.length % 8 = 0 then pk B ++ [0] else pk B).getD i 0 = if i < (B.length + 7) / 8 then byteAt B i else 0 := fun i => by
    by_cases hi : i < (B.length + 7) / 8
    · rw [if_pos hi, ← pk_get B i hi]
      split
      · have hh := pk_len B
        simp only [List.getD]
        rw [List.getElem?_append_left (by omega)]
      · rfl
    · rw [if_neg hi]
      split
      · have hh := pk_len B
        rw [getD_snoc, if_neg (by omega)]
        split <;> rfl
      · exact getD_big _ _ (by rw [pk_len]; omega)
  have hb0 : ∀ i, (B.length + 7) / 8 ≤ i → byteAt B i = 0 := fun i hi => by
    unfold byteAt
    rw [getD_big B _ (by omega), getD_big B _ (by omega), getD_big B _ (by omega), getD_big B _ (by omega), getD_big B _ (by omega), getD_big B _ (by omega), getD_big B _ (by omega), getD_big B _ (by omega)]
    rfl
  have hg2 : ∀ i, (if B.length % 8 = 0 then pk B ++ [0] else pk B).getD i 0 = byteAt B i := fun i => by
    rw [hg]
    split
    · rfl
    · exact (hb0 i (by omega)).symm
  generalize hX : (if B.length % 8 = 0 then pk B ++ [0] else pk B) = X at *
  by_cases hj : j < (B.length + 1 + 7) / 8
  · have e1 : (pk (B ++ [t]))[j]? = some (byteAt (B ++ [t]) j) := by
      unfold pk
      rw [List.getElem?_map, List.getElem?_range (by simp; omega)]
      rfl
    rw [e1, List.getElem?_set, byteAt_snoc]
    by_cases h2 : j = B.length / 8
    · rw [if_pos h2, if_pos h2.symm, if_pos (by omega), hg2, h2]
    · rw [if_neg h2, if_neg (fun h => h2 h.symm)]
      have := hg2 j
      simp only [List.getD] at this
      rw [List.getElem?_eq_getElem (by omega)] at this ⊢
      simp only [Option.getD_some] at this
      rw [this]
  · rw [List.getElem?_eq_none (by rw [pk_len]; simp; omega), List.getElem?_eq_none (by rw [List.length_set]; omega)]
/-- A number as so many bits, the high ones first. -/
def num2 (x : Int) (m : Nat) : List Int := (List.range m).map fun j => x / 2 ^ (m - 1 - j) % 2
theorem num2_len (x : Int) (m : Nat) : (num2 x m).length = m := by simp [num2]
theorem num2_bit (x : Int) (m : Nat) : ∀ z ∈ num2 x m, z = 0 ∨ z = 1 := by
  intro z hz
  obtain ⟨j, _, rfl⟩ := List.mem_map.1 hz
  omega
theorem num2_get (x : Int) (m j : Nat) (h : j < m) : (num2 x m).getD j 0 = x / 2 ^ (m - 1 - j) % 2 := by simp [num2, List.getD, h]
theorem num2_five (x : Int) : num2 x 5 = [x / 16 % 2, x / 8 % 2, x / 4 % 2, x / 2 % 2, x / 1 % 2] := rfl
theorem num2_six (x : Int) : num2 x 6 = [x / 32 % 2, x / 16 % 2, x / 8 % 2, x / 4 % 2, x / 2 % 2, x / 1 % 2] := rfl
theorem num2_eight (x : Int) : num2 x 8 = [x / 128 % 2, x / 64 % 2, x / 32 % 2, x / 16 % 2, x / 8 % 2, x / 4 % 2, x / 2 % 2, x / 1 % 2] := rfl
theorem num2_nine (x : Int) : num2 x 9 = [x / 256 % 2, x / 128 % 2, x / 64 % 2, x / 32 % 2, x / 16 % 2, x / 8 % 2, x / 4 % 2, x / 2 % 2, x / 1 % 2] := rfl
theorem six_is {x : Int} (h0 : 0 ≤ x) (h1 : x < 32) : num2 x 6 = 0 :: num2 x 5 := by
  rw [num2_six, num2_five, show x / 32 % 2 = 0 by omega]
theorem nine_is {x : Int} (h0 : 0 ≤ x) (h1 : x < 256) : num2 (256 + x) 9 = 1 :: num2 x 8 := by
  rw [num2_nine, num2_eight]
  simp only [List.cons.injEq, and_true]
  omega
/-- The bits of a letter; of a text; what fills up. -/
def letB (c : UInt8) : List Int := if 0 ≤ oftI c then 0 :: num2 (oftI c) 5 else 1 :: num2 (c.toNat : Int) 8
def bitsB (l : List UInt8) : List Int := l.flatMap letB
def fillB (n : Nat) : List Int := List.replicate ((8 - n % 8) % 8) 1
def codeL (l : List UInt8) : List Int := pk (bitsB l ++ fillB (bitsB l).length)
theorem letB_len (c : UInt8) : (letB c).length = bitC c := by
  unfold letB bitC
  split <;> simp [num2_len]
theorem bitsB_snoc (l : List UInt8) (c : UInt8) : bitsB (l ++ [c]) = bitsB l ++ letB c := by simp [bitsB]
theorem bitsB_app (l r : List UInt8) : bitsB (l ++ r) = bitsB l ++ bitsB r := by simp [bitsB]
theorem bitsB_len (l : List UInt8) : (bitsB l).length = bitsN l := by
  induction l with
  | nil => rfl
  | cons c l ih => rw [show c :: l = [c] ++ l from rfl, bitsB_app, List.length_append, ih, bitsN_append]; simp [bitsB, bitsN, letB_len]
theorem letB_bit (c : UInt8) : ∀ z ∈ letB c, z = 0 ∨ z = 1 := by
  intro z hz
  unfold letB at hz
  split at hz
  · rcases List.mem_cons.1 hz with h | h
    · exact .inl h
    · exact num2_bit _ _ z h
  · rcases List.mem_cons.1 hz with h | h
    · exact .inr h
    · exact num2_bit _ _ z h
theorem bitsB_bit (l : List UInt8) : ∀ z ∈ bitsB l, z = 0 ∨ z = 1 := by
  intro z hz
  obtain ⟨c, _, h⟩ := List.mem_flatMap.1 hz
  exact letB_bit c z h
theorem bit_of {B : List Int} (h : ∀ z ∈ B, z = 0 ∨ z = 1) : Bit B := by
  have := bit_app (A := []) (B := B) bit_nil h
  simpa using this
theorem fill_bit (n : Nat) : ∀ z ∈ fillB n, z = 0 ∨ z = 1 := fun z hz => .inr (List.eq_of_mem_replicate hz)
theorem code_bit (l : List UInt8) : Bit (bitsB l ++ fillB (bitsB l).length) := bit_app (bit_of (bitsB_bit l)) (fill_bit _)
theorem code_len8 (l : List UInt8) : 8 * (codeL l).length = (bitsB l ++ fillB (bitsB l).length).length := by
  unfold codeL
  rw [pk_len, List.length_append]
  unfold fillB
  rw [List.length_replicate]
  omega
theorem code_bd (l : List UInt8) : ∀ z ∈ codeL l, 0 ≤ z ∧ z ≤ 255 := pk_bd (code_bit l)
/-- What stands in the midst of bits is read as it is. -/
theorem val_mid {A R : List Int} {x : Int} {m : Nat} (hB : Bit (A ++ (num2 x m ++ R))) (h8 : (A ++ (num2 x m ++ R)).length % 8 = 0) (h0 : 0 ≤ x) (h1 : x < 2 ^ m) : valZ (pk (A ++ (num2 x m ++ R))) A.length m = x := by
  have key : ∀ k, k ≤ m → valZ (pk (A ++ (num2 x m ++ R))) A.length k = x / 2 ^ (m - k) := by
    intro k
    induction k with
    | zero =>
      intro _
      rw [valZ, Nat.sub_zero]
      exact (Int.ediv_eq_zero_of_lt h0 h1).symm
    | succ k ih =>
      intro hk
      have hl : (A ++ (num2 x m ++ R)).length = A.length + (m + R.length) := by simp [num2_len]
      rw [valZ, ih (by omega), bit_pk hB _ (by omega)]
      have e : (A ++ (num2 x m ++ R)).getD (A.length + k) 0 = x / 2 ^ (m - 1 - k) % 2 := by
        rw [← num2_get x m k (by omega)]
        simp only [List.getD]
        rw [List.getElem?_append_right (by omega), Nat.add_sub_cancel_left, List.getElem?_append_left (by rw [num2_len]; omega)]
      rw [e, show m - k = (m - 1 - k) + 1 by omega, show m - (k + 1) = m - 1 - k by omega, Int.pow_succ]
      have hP : (0 : Int) < 2 ^ (m - 1 - k) := Int.pow_pos (by decide)
      generalize (2 : Int) ^ (m - 1 - k) = P at *
      have h2 : x / (P * 2) = x / P / 2 := by first | exact (Int.ediv_ediv (by omega)).symm | exact (Int.ediv_ediv_of_nonneg (by omega)).symm | exact Int.ediv_mul x P 2 | rw [Int.ediv_ediv_eq_ediv_mul]
      rw [h2]
      omega
  have := key m (Nat.le_refl _)
  rw [this, Nat.sub_self]
  omega
theorem bit_mid {A R : List Int} {t : Int} (hB : Bit (A ++ (t :: R))) (h8 : (A ++ (t :: R)).length % 8 = 0) : bitZ (pk (A ++ (t :: R))) A.length = t := by
  rw [bit_pk hB _ (by simp at h8 ⊢; omega)]
  simp [List.getD]
/-- What bytes are as a text: out is read, n bits are gone. -/
def decS (l : List Int) : Nat → Nat → List UInt8 → Option (List UInt8)
  | 0, _, _ => none
  | f + 1, n, out =>
    if 8 * l.length ≤ n then some out
    else if 8 * l.length - n < 8 ∧ valZ l n (8 * l.length - n) = 2 ^ (8 * l.length - n) - 1 then some out
    else if 8 * l.length - n < 6 then none
    else if bitZ l n = 0 then decS l f (n + 6) (out ++ [oftenL.getD (valZ l (n + 1) 5).toNat 0])
    else if 8 * l.length - n < 9 then none
    else if 0 ≤ oftI (UInt8.ofNat (valZ l (n + 1) 8).toNat) then none
    else decS l f (n + 9) (out ++ [UInt8.ofNat (valZ l (n + 1) 8).toNat])
section
variable {l : List Int} {f n : Nat} {out : List UInt8}
theorem decS_end (h : 8 * l.length ≤ n) : decS l (f + 1) n out = some out := by rw [decS, if_pos h]
theorem decS_fill (h : n < 8 * l.length) (h2 : 8 * l.length - n < 8 ∧ valZ l n (8 * l.length - n) = 2 ^ (8 * l.length - n) - 1) : decS l (f + 1) n out = some out := by rw [decS, if_neg (by omega), if_pos h2]
theorem decS_few (h : n < 8 * l.length) (h2 : ¬ (8 * l.length - n < 8 ∧ valZ l n (8 * l.length - n) = 2 ^ (8 * l.length - n) - 1)) (h3 : 8 * l.length - n < 6) : decS l (f + 1) n out = none := by rw [decS, if_neg (by omega), if_neg h2, if_pos h3]
theorem decS_often (h : n < 8 * l.length) (h2 : ¬ (8 * l.length - n < 8 ∧ valZ l n (8 * l.length - n) = 2 ^ (8 * l.length - n) - 1)) (h3 : ¬ 8 * l.length - n < 6) (h4 : bitZ l n = 0) : decS l (f + 1) n out = decS l f (n + 6) (out ++ [oftenL.getD (valZ l (n + 1) 5).toNat 0]) := by rw [decS, if_neg (by omega), if_neg h2, if_neg h3, if_pos h4]
theorem decS_few9 (h : n < 8 * l.length) (h2 : ¬ (8 * l.length - n < 8 ∧ valZ l n (8 * l.length - n) = 2 ^ (8 * l.length - n) - 1)) (h3 : ¬ 8 * l.length - n < 6) (h4 : bitZ l n ≠ 0) (h5 : 8 * l.length - n < 9) : decS l (f + 1) n out = none := by rw [decS, if_neg (by omega), if_neg h2, if_neg h3, if_neg h4, if_pos h5]
theorem decS_syn (h : n < 8 * l.length) (h2 : ¬ (8 * l.length - n < 8 ∧ valZ l n (8 * l.length - n) = 2 ^ (8 * l.length - n) - 1)) (h3 : ¬ 8 * l.length - n < 6) (h4 : bitZ l n ≠ 0) (h5 : ¬ 8 * l.length - n < 9) (h6 : 0 ≤ oftI (UInt8.ofNat (valZ l (n + 1) 8).toNat)) : decS l (f + 1) n out = none := by rw [decS, if_neg (by omega), if_neg h2, if_neg h3, if_neg h4, if_neg h5, if_pos h6]
theorem decS_other (h : n < 8 * l.length) (h2 : ¬ (8 * l.length - n < 8 ∧ valZ l n (8 * l.length - n) = 2 ^ (8 * l.length - n) - 1)) (h3 : ¬ 8 * l.length - n < 6) (h4 : bitZ l n ≠ 0) (h5 : ¬ 8 * l.length - n < 9) (h6 : ¬ 0 ≤ oftI (UInt8.ofNat (valZ l (n + 1) 8).toNat)) : decS l (f + 1) n out = decS l f (n + 9) (out ++ [UInt8.ofNat (valZ l (n + 1) 8).toNat]) := by rw [decS, if_neg (by omega), if_neg h2, if_neg h3, if_neg h4, if_neg h5, if_neg h6]
end
theorem often_back (c : UInt8) (h : 0 ≤ oftI c) : oftenL.getD (oftI c).toNat 0 = c := by
  have h2 : ∀ n : Fin 256, 0 ≤ oftI (UInt8.ofNat n.1) → oftenL.getD (oftI (UInt8.ofNat n.1)).toNat 0 = UInt8.ofNat n.1 := by decide +kernel
  have := h2 ⟨c.toNat, c.toNat_lt⟩
  simp only [UInt8.ofNat_toNat] at this
  exact this h
/-- Where not all bits are 1 the number is not the greatest. -/
theorem val_first {l : List Int} {n k : Nat} (hk : 1 ≤ k) (h : bitZ l n = 0) : valZ l n k ≠ 2 ^ k - 1 := by
  have key : ∀ j, valZ l n (j + 1) < 2 ^ j := by
    intro j
    induction j with
    | zero =>
      have e : valZ l n 1 = 2 * valZ l n 0 + bitZ l (n + 0) := rfl
      rw [e, Nat.add_zero, h]
      simp [valZ]
    | succ j ih =>
      have hb := bitZ_bd l (n + (j + 1))
      have e : valZ l n (j + 1 + 1) = 2 * valZ l n (j + 1) + bitZ l (n + (j + 1)) := rfl
      have e2 : (2 : Int) ^ (j + 1) = 2 * 2 ^ j := by rw [Int.pow_succ]; omega
      rw [e, e2]; omega
  obtain ⟨j, rfl⟩ : ∃ j, k = j + 1 := ⟨k - 1, by omega⟩
  have h1 := key j
  have e2 : (2 : Int) ^ (j + 1) = 2 * 2 ^ j := by rw [Int.pow_succ]; omega
  have hP : (0 : Int) < 2 ^ j := Int.pow_pos (by decide)
  rw [e2]; omega
theorem val_ones {l : List Int} {n : Nat} : ∀ k, (∀ j, j < k → bitZ l (n + j) = 1) → valZ l n k = 2 ^ k - 1 := by
  intro k
  induction k with
  | zero => intro _; rfl
  | succ k ih =>
    intro h
    have e2 : (2 : Int) ^ (k + 1) = 2 * 2 ^ k := by rw [Int.pow_succ]; omega
    rw [valZ, ih (fun j hj => h j (by omega)), h k (by omega), e2]; omega
theorem dec_from (s t : List UInt8) : ∀ f, t.length < f → decS (codeL (s ++ t)) f (bitsB s).length s = some (s ++ t) := by
  induction t generalizing s with
  | nil =>
    intro f hf
    obtain ⟨f, rfl⟩ : ∃ g, f = g + 1 := ⟨f - 1, by simp at hf; omega⟩
    rw [List.append_nil]
    have h8 := code_len8 s
    have hl : (bitsB s ++ fillB (bitsB s).length).length = (bitsB s).length + (8 - (bitsB s).length % 8) % 8 := by
      rw [List.length_append]; unfold fillB; rw [List.length_replicate]
    rw [hl] at h8
    by_cases h0 : 8 * (codeL s).length ≤ (bitsB s).length
    · exact decS_end h0
    · refine decS_fill (by omega) ⟨by omega, val_ones _ fun j hj => ?_⟩
      unfold codeL
      rw [bit_pk (code_bit s) _ (by rw [hl]; omega)]
      simp only [List.getD]
      rw [List.getElem?_append_right (by omega), Nat.add_sub_cancel_left]
      unfold fillB
      rw [List.getElem?_replicate, if_pos (by omega)]
      rfl
  | cons c t ih =>
    intro f hf
    obtain ⟨f, rfl⟩ : ∃ g, f = g + 1 := ⟨f - 1, by omega⟩
    have hst : s ++ c :: t = (s ++ [c]) ++ t := by simp
    have h8 := code_len8 (s ++ c :: t)
    have hbit := code_bit (s ++ c :: t)
    have hB : bitsB (s ++ c :: t) ++ fillB (bitsB (s ++ c :: t)).length = bitsB s ++ (letB c ++ (bitsB t ++ fillB (bitsB (s ++ c :: t)).length)) := by
      rw [show s ++ c :: t = s ++ ([c] ++ t) by simp, bitsB_app, bitsB_app, show bitsB [c] = letB c by simp [bitsB]]
      simp
    have hcode : codeL (s ++ c :: t) = pk (bitsB s ++ (letB c ++ (bitsB t ++ fillB (bitsB (s ++ c :: t)).length))) := by unfold codeL; rw [hB]
    have hlen : (bitsB (s ++ [c])).length = (bitsB s).length + bitC c := by rw [bitsB_snoc, List.length_append, letB_len]
    have hlc := letB_len c
    have hih := ih (s ++ [c]) f (by simp at hf; omega)
    rw [← hst, hlen] at hih
    rw [hB] at h8 hbit
    generalize bitsB t ++ fillB (bitsB (s ++ c :: t)).length = R at *
    have hm8 : (bitsB s ++ (letB c ++ R)).length % 8 = 0 := by omega
    have hL : (bitsB s ++ (letB c ++ R)).length = (bitsB s).length + ((letB c).length + R.length) := by simp
    by_cases ho : 0 ≤ oftI c
    · have hbc : bitC c = 6 := if_pos ho
      have hlb : letB c = 0 :: num2 (oftI c) 5 := if_pos ho
      have hob := oftI_bd c
      have hb0 : bitZ (codeL (s ++ c :: t)) (bitsB s).length = 0 := by
        rw [hcode, hlb]
        rw [hlb] at hbit hm8
        exact bit_mid hbit hm8
      have hv : valZ (codeL (s ++ c :: t)) ((bitsB s).length + 1) 5 = oftI c := by
        rw [hcode, hlb]
        rw [hlb] at hbit hm8
        have e : bitsB s ++ (0 :: num2 (oftI c) 5 ++ R) = (bitsB s ++ [0]) ++ (num2 (oftI c) 5 ++ R) := by simp
        rw [e] at hbit hm8 ⊢
        have := val_mid hbit hm8 ho (by have : (2 : Int) ^ 5 = 32 := rfl; omega)
        rw [List.length_append, List.length_singleton] at this
        exact this
      rw [decS_often (by omega) (fun h => val_first (by omega) hb0 h.2) (by omega) hb0, hv, often_back c ho, ← hbc]
      exact hih
    · have hbc : bitC c = 9 := if_neg ho
      have hlb : letB c = 1 :: num2 (c.toNat : Int) 8 := if_neg ho
      have hcn := c.toNat_lt
      have hb1 : bitZ (codeL (s ++ c :: t)) (bitsB s).length = 1 := by
        rw [hcode, hlb]
        rw [hlb] at hbit hm8
        exact bit_mid hbit hm8
      have hv : valZ (codeL (s ++ c :: t)) ((bitsB s).length + 1) 8 = (c.toNat : Int) := by
        rw [hcode, hlb]
        rw [hlb] at hbit hm8
        have e : bitsB s ++ (1 :: num2 (c.toNat : Int) 8 ++ R) = (bitsB s ++ [1]) ++ (num2 (c.toNat : Int) 8 ++ R) := by simp
        rw [e] at hbit hm8 ⊢
        have := val_mid hbit hm8 (by omega) (by have : (2 : Int) ^ 8 = 256 := rfl; omega)
        rw [List.length_append, List.length_singleton] at this
        exact this
      have hcc : UInt8.ofNat ((c.toNat : Int)).toNat = c := by simp
      rw [decS_other (by omega) (by omega) (by omega) (by omega) (by omega) (by rw [hv, hcc]; exact ho), hv, hcc, ← hbc]
      exact hih
/-- What was written as bits is read as it was. -/
theorem dec_code (s : List UInt8) : decS (codeL s) (8 * (codeL s).length + 1) 0 [] = some s := by
  have h := dec_from [] s
  rw [List.nil_append] at h
  have h8 := code_len8 s
  have hb := bitsN_bd s
  have hl := bitsB_len s
  rw [List.length_append] at h8
  exact h _ (by omega)
end Go.Proofs.Ytbbhinhledkceaa.CodeC
