/-
  What is read of pieces, in plain Lean: a number, a text that has to stand there, a body.
-/
import Derived.Test.YtkohbbnnjakhjaaDoorProg
namespace Go.Proofs.YtkohbbnnjakhjaaDoor.ChunkD
set_option linter.unusedVariables false

/-- A digit's number, or -1. -/
def dg (z : Int) : Int := if 48 ≤ z ∧ z ≤ 57 then z - 48 else if 97 ≤ z ∧ z ≤ 102 then z - 87 else -1
theorem dg_le (z : Int) : dg z ≤ 15 := by unfold dg; split <;> (try split) <;> omega
theorem dg_ge (z : Int) : -1 ≤ dg z := by unfold dg; split <;> (try split) <;> omega
/-- The number that begins at st: the number, the place behind it, the fault. -/
def num (b : List Int) (st most : Nat) : Nat → Nat → Nat → Nat × Nat × Nat
  | 0, _, _ => (0, 0, 8)
  | f + 1, k, n =>
    if b.length ≤ k then (0, 0, 8)
    else if dg (b.getD k 0) < 0 then (if k = st then (0, 0, 2) else (n, k, 0))
    else if k = st + 1 ∧ n = 0 then (0, 0, 2)
    else if most < 16 * n + (dg (b.getD k 0)).toNat then (0, 0, 4)
    else num b st most f (k + 1) (16 * n + (dg (b.getD k 0)).toNat)
section
variable {b : List Int} {st most f k n : Nat}
theorem num_short (h : b.length ≤ k) : num b st most (f + 1) k n = (0, 0, 8) := by simp [num, h]
theorem num_end (h : k < b.length) (hd : dg (b.getD k 0) < 0) (hs : k ≠ st) : num b st most (f + 1) k n = (n, k, 0) := by rw [num, if_neg (by omega), if_pos hd, if_neg hs]
theorem num_syn1 (h : k < b.length) (hd : dg (b.getD k 0) < 0) (hs : k = st) : num b st most (f + 1) k n = (0, 0, 2) := by rw [num, if_neg (by omega), if_pos hd, if_pos hs]
theorem num_syn2 (h : k < b.length) (hd : ¬ dg (b.getD k 0) < 0) (hs : k = st + 1 ∧ n = 0) : num b st most (f + 1) k n = (0, 0, 2) := by rw [num, if_neg (by omega), if_neg hd, if_pos hs]
theorem num_full (h : k < b.length) (hd : ¬ dg (b.getD k 0) < 0) (hs : ¬ (k = st + 1 ∧ n = 0)) (hm : most < 16 * n + (dg (b.getD k 0)).toNat) : num b st most (f + 1) k n = (0, 0, 4) := by rw [num, if_neg (by omega), if_neg hd, if_neg hs, if_pos hm]
theorem num_step (h : k < b.length) (hd : ¬ dg (b.getD k 0) < 0) (hs : ¬ (k = st + 1 ∧ n = 0)) (hm : ¬ most < 16 * n + (dg (b.getD k 0)).toNat) : num b st most (f + 1) k n = num b st most f (k + 1) (16 * n + (dg (b.getD k 0)).toNat) := by rw [num, if_neg (by omega), if_neg hd, if_neg hs, if_neg hm]
end
/-- How many digits: not many, since the number is not great. -/
def Few (st k n : Nat) : Prop := (k = st ∧ n = 0) ∨ (k = st + 1) ∨ (k = st + 2 ∧ 16 ≤ n) ∨ (k = st + 3 ∧ 256 ≤ n) ∨ (k = st + 4 ∧ 4096 ≤ n)
theorem Few.step {st k n d most : Nat} (h : Few st k n) (hm : most ≤ 8000) (hs : ¬ (k = st + 1 ∧ n = 0)) (hn : 16 * n + d ≤ most) : Few st (k + 1) (16 * n + d) := by
  unfold Few at *
  omega
/-- What number gives: when there is no fault. -/
theorem num_ok {b : List Int} {st most : Nat} (hm : most ≤ 8000) : ∀ f k n, Few st k n → n ≤ most → st ≤ k → (num b st most f k n).2.2 = 0 → st < (num b st most f k n).2.1 ∧ (num b st most f k n).2.1 < b.length ∧ (num b st most f k n).1 ≤ most ∧ (num b st most f k n).2.1 ≤ st + 4 := by
  intro f
  induction f with
  | zero => intro k n _ _ _ h; simp [num] at h
  | succ f ih =>
    intro k n hF hn hst h
    by_cases h1 : b.length ≤ k
    · rw [num_short h1] at h; simp at h
    · by_cases h2 : dg (b.getD k 0) < 0
      · by_cases h3 : k = st
        · rw [num_syn1 (by omega) h2 h3] at h; simp at h
        · rw [num_end (by omega) h2 h3]
          unfold Few at hF
          refine ⟨?_, ?_, hn, ?_⟩ <;> simp only <;> omega
      · by_cases h3 : k = st + 1 ∧ n = 0
        · rw [num_syn2 (by omega) h2 h3] at h; simp at h
        · by_cases h4 : most < 16 * n + (dg (b.getD k 0)).toNat
          · rw [num_full (by omega) h2 h3 h4] at h; simp at h
          · rw [num_step (by omega) h2 h3 h4] at h ⊢
            exact ih _ _ (hF.step hm h3 (by omega)) (by omega) (by omega) h
theorem num_bad {b : List Int} {st most : Nat} : ∀ f k n, (num b st most f k n).2.2 ≠ 0 → (num b st most f k n).1 = 0 ∧ (num b st most f k n).2.1 = 0 := by
  intro f
  induction f with
  | zero => intro k n _; simp [num]
  | succ f ih =>
    intro k n h
    by_cases h1 : b.length ≤ k
    · rw [num_short h1]; simp
    · by_cases h2 : dg (b.getD k 0) < 0
      · by_cases h3 : k = st
        · rw [num_syn1 (by omega) h2 h3]; simp
        · rw [num_end (by omega) h2 h3] at h; simp at h
      · by_cases h3 : k = st + 1 ∧ n = 0
        · rw [num_syn2 (by omega) h2 h3]; simp
        · by_cases h4 : most < 16 * n + (dg (b.getD k 0)).toNat
          · rw [num_full (by omega) h2 h3 h4]; simp
          · rw [num_step (by omega) h2 h3 h4] at h ⊢
            exact ih _ _ h
/-- A text that has to stand there: the place behind it, the fault. -/
def mt (b : List Int) : List Int → Nat → Nat × Nat
  | [], p => (p, 0)
  | c :: cs, p => if b.length ≤ p then (0, 8) else if b.getD p 0 = c then mt b cs (p + 1) else (0, 2)
theorem mt_short {b : List Int} {c : Int} {cs : List Int} {p : Nat} (h : b.length ≤ p) : mt b (c :: cs) p = (0, 8) := by simp [mt, h]
theorem mt_bad {b : List Int} {c : Int} {cs : List Int} {p : Nat} (h : p < b.length) (hc : b.getD p 0 ≠ c) : mt b (c :: cs) p = (0, 2) := by rw [mt, if_neg (by omega), if_neg hc]
theorem mt_step {b : List Int} {c : Int} {cs : List Int} {p : Nat} (h : p < b.length) (hc : b.getD p 0 = c) : mt b (c :: cs) p = mt b cs (p + 1) := by rw [mt, if_neg (by omega), if_pos hc]
theorem mt_ok {b : List Int} : ∀ s p, (mt b s p).2 = 0 → (mt b s p).1 = p + s.length ∧ (s ≠ [] → p + s.length ≤ b.length) := by
  intro s
  induction s with
  | nil => intro p _; simp [mt]
  | cons c cs ih =>
    intro p h
    by_cases h1 : b.length ≤ p
    · rw [mt_short h1] at h; simp at h
    · by_cases h2 : b.getD p 0 = c
      · rw [mt_step (by omega) h2] at h ⊢
        obtain ⟨e1, e2⟩ := ih _ h
        refine ⟨by rw [e1, List.length_cons]; omega, fun _ => ?_⟩
        by_cases h3 : cs = []
        · subst h3; simp; omega
        · have := e2 h3; rw [List.length_cons]; omega
      · rw [mt_bad (by omega) h2] at h; simp at h
theorem mt_zero {b : List Int} : ∀ s p, (mt b s p).2 ≠ 0 → (mt b s p).1 = 0 := by
  intro s
  induction s with
  | nil => intro p h; simp [mt] at h
  | cons c cs ih =>
    intro p h
    by_cases h1 : b.length ≤ p
    · rw [mt_short h1]
    · by_cases h2 : b.getD p 0 = c
      · rw [mt_step (by omega) h2] at h ⊢; exact ih _ h
      · rw [mt_bad (by omega) h2]
/-- A body in pieces: the body, how many bytes, the fault. -/
def dec (b : List Int) : Nat → Nat → List Int → List Int × Nat × Nat
  | 0, _, _ => ([], 0, 8)
  | f + 1, p, body =>
    let r := num b p (8000 - body.length) (b.length + 1) p 0
    if r.2.2 ≠ 0 then ([], 0, r.2.2) else
    let m := mt b [13, 10] r.2.1
    if m.2 ≠ 0 then ([], 0, m.2) else
    let m2 := mt b [13, 10] (m.1 + r.1)
    if m2.2 ≠ 0 then ([], 0, m2.2) else
    if r.1 = 0 then (body ++ (b.drop m.1).take r.1, m2.1, 0) else dec b f m2.1 (body ++ (b.drop m.1).take r.1)
section
variable {b body : List Int} {f p n q m m2 e : Nat}
theorem dec_num (h : num b p (8000 - body.length) (b.length + 1) p 0 = (n, q, e)) (he : e ≠ 0) : dec b (f + 1) p body = ([], 0, e) := by simp [dec, h, he]
theorem dec_mt (h : num b p (8000 - body.length) (b.length + 1) p 0 = (n, q, 0)) (hm : mt b [13, 10] q = (m, e)) (he : e ≠ 0) : dec b (f + 1) p body = ([], 0, e) := by simp [dec, h, hm, he]
theorem dec_mt2 (h : num b p (8000 - body.length) (b.length + 1) p 0 = (n, q, 0)) (hm : mt b [13, 10] q = (m, 0)) (hm2 : mt b [13, 10] (m + n) = (m2, e)) (he : e ≠ 0) : dec b (f + 1) p body = ([], 0, e) := by simp [dec, h, hm, hm2, he]
theorem dec_end (h : num b p (8000 - body.length) (b.length + 1) p 0 = (0, q, 0)) (hm : mt b [13, 10] q = (m, 0)) (hm2 : mt b [13, 10] m = (m2, 0)) : dec b (f + 1) p body = (body, m2, 0) := by simp [dec, h, hm, hm2]
theorem dec_step (h : num b p (8000 - body.length) (b.length + 1) p 0 = (n, q, 0)) (hm : mt b [13, 10] q = (m, 0)) (hm2 : mt b [13, 10] (m + n) = (m2, 0)) (hn : n ≠ 0) : dec b (f + 1) p body = dec b f m2 (body ++ (b.drop m).take n) := by simp [dec, h, hm, hm2, hn]
end
end Go.Proofs.YtkohbbnnjakhjaaDoor.ChunkD
