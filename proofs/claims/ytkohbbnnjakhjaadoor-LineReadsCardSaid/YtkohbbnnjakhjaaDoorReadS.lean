/-
  What is read of bytes as a message, in plain Lean: a place and a fault, step by step; a request, a reply.
-/
import Derived.Test.YtkohbbnnjakhjaaDoorChunkSpec
import Derived.Test.YtkohbbnnjakhjaaDoorBytesAt
import Derived.Test.YtkohbbnnjakhjaaDoorLineCheck
namespace Go.Proofs.YtkohbbnnjakhjaaDoor.ReadS
open ChunkD BA LineC LineM FieldRows
set_option linter.unusedVariables false

def u8 (z : Int) : UInt8 := UInt8.ofNat z.toNat
def visB (c : UInt8) : Bool := decide (33 ≤ c.toNat) && decide (c.toNat ≤ 126)
/-- Up to a byte: the place where it stands, the fault. -/
def ut (b : List Int) (stop : Int) (may : UInt8 → Bool) (p : Nat) : Nat → Nat → Nat × Nat
  | 0, _ => (0, 8)
  | f + 1, i => if b.length ≤ i then (0, 8) else if b.getD i 0 = stop then (i, 0) else if may (u8 (b.getD i 0)) = false ∨ 400 ≤ i - p then (0, 2) else ut b stop may p f (i + 1)
section
variable {b : List Int} {stop : Int} {may : UInt8 → Bool} {p f i : Nat}
theorem ut_short (h : b.length ≤ i) : ut b stop may p (f + 1) i = (0, 8) := by simp [ut, h]
theorem ut_end (h : i < b.length) (hc : b.getD i 0 = stop) : ut b stop may p (f + 1) i = (i, 0) := by rw [ut, if_neg (by omega), if_pos hc]
theorem ut_syn (h : i < b.length) (hc : b.getD i 0 ≠ stop) (hm : may (u8 (b.getD i 0)) = false ∨ 400 ≤ i - p) : ut b stop may p (f + 1) i = (0, 2) := by rw [ut, if_neg (by omega), if_neg hc, if_pos hm]
theorem ut_step (h : i < b.length) (hc : b.getD i 0 ≠ stop) (hm : may (u8 (b.getD i 0)) = true) (h4 : ¬ 400 ≤ i - p) : ut b stop may p (f + 1) i = ut b stop may p f (i + 1) := by
  rw [ut, if_neg (by omega), if_neg hc, if_neg (by rw [hm]; simp; omega)]
end
theorem ut_ok {b : List Int} {stop : Int} {may : UInt8 → Bool} {p : Nat} : ∀ f i, p ≤ i → i ≤ p + 400 → (ut b stop may p f i).2 = 0 → i ≤ (ut b stop may p f i).1 ∧ (ut b stop may p f i).1 < b.length ∧ (ut b stop may p f i).1 ≤ p + 400 := by
  intro f
  induction f with
  | zero => intro i _ _ h; simp [ut] at h
  | succ f ih =>
    intro i hp h4 h
    by_cases h1 : b.length ≤ i
    · rw [ut_short h1] at h; simp at h
    · by_cases h2 : b.getD i 0 = stop
      · rw [ut_end (by omega) h2]; exact ⟨Nat.le_refl _, by simp only; omega, h4⟩
      · by_cases h3 : may (u8 (b.getD i 0)) = false ∨ 400 ≤ i - p
        · rw [ut_syn (by omega) h2 h3] at h; simp at h
        · have h5 : may (u8 (b.getD i 0)) = true := by
            rcases hm : may (u8 (b.getD i 0)) with _ | _
            · exact absurd (.inl hm) h3
            · rfl
          have h6 : ¬ 400 ≤ i - p := fun h => h3 (.inr h)
          rw [ut_step (by omega) h2 h5 h6] at h ⊢
          obtain ⟨a, c, d⟩ := ih (i + 1) (by omega) (by omega) h
          exact ⟨by omega, c, d⟩
theorem ut_codes {b : List Int} {stop : Int} {may : UInt8 → Bool} {p : Nat} : ∀ f i, (ut b stop may p f i).2 = 0 ∨ ut b stop may p f i = (0, 2) ∨ ut b stop may p f i = (0, 8) := by
  intro f
  induction f with
  | zero => intro i; exact .inr (.inr rfl)
  | succ f ih =>
    intro i
    unfold ut
    split
    · exact .inr (.inr rfl)
    · split
      · exact .inl rfl
      · split
        · exact .inr (.inl rfl)
        · exact ih _
def txt (b : List Int) (p i : Nat) : ByteArray := strOf ((b.drop p).take (i - p))
theorem strOf_size (l : List Int) : (strOf l).size = l.length := by simp [strOf, ByteArray.size]
theorem txt_size (b : List Int) (p i : Nat) : (txt b p i).size ≤ i - p := by unfold txt; rw [strOf_size, List.length_take]; omega
/-- A place, and a fault (0: none). -/
abbrev St := Nat × Nat
def mtS (b s : List Int) (σ : St) : St := if σ.2 = 0 then mt b s σ.1 else σ
def needS (ok : Bool) (σ : St) : St := if σ.2 = 0 ∧ ok = false then (σ.1, 2) else σ
def utS (b : List Int) (stop : Int) (may : UInt8 → Bool) (σ : St) : ByteArray × St :=
  if σ.2 = 0 then (if (ut b stop may σ.1 (b.length + 1) σ.1).2 = 0 then txt b σ.1 (ut b stop may σ.1 (b.length + 1) σ.1).1 else ⟨#[]⟩, ut b stop may σ.1 (b.length + 1) σ.1) else (⟨#[]⟩, σ)
def blankS (b : List Int) (σ : St) : St := if σ.2 = 0 ∧ σ.1 < b.length ∧ b.getD σ.1 0 = 32 then (σ.1, 2) else σ
def valS (b : List Int) (σ : St) : ByteArray × St :=
  let u := utS b 13 okB (blankS b (mtS b [58, 32] σ))
  (u.1, mtS b [13, 10] (needS (plainL u.1.data.toList) u.2))
/-- Digits up to a line's end: the number, the place, the fault. -/
def dgs (b : List Int) (least p : Nat) : Nat → Nat → Nat → Nat × St
  | 0, _, _ => (0, 0, 8)
  | f + 1, i, n =>
    if b.length ≤ i then (0, 0, 8)
    else if b.getD i 0 = 13 ∧ p < i then (if n < least then (0, 0, 2) else (n, i, 0))
    else if b.getD i 0 < 48 ∨ 57 < b.getD i 0 ∨ (i = p + 1 ∧ n = 0) ∨ (i = p ∧ b.getD i 0 = 48 ∧ 0 < least) then (0, 0, 2)
    else if 8000 < 10 * n + (b.getD i 0 - 48).toNat then (0, 0, 4)
    else dgs b least p f (i + 1) (10 * n + (b.getD i 0 - 48).toNat)
section
variable {b : List Int} {least p f i n : Nat}
theorem dgs_short (h : b.length ≤ i) : dgs b least p (f + 1) i n = (0, 0, 8) := by rw [dgs, if_pos h]
theorem dgs_few (h : i < b.length) (h1 : b.getD i 0 = 13 ∧ p < i) (h2 : n < least) : dgs b least p (f + 1) i n = (0, 0, 2) := by rw [dgs, if_neg (by omega), if_pos h1, if_pos h2]
theorem dgs_end (h : i < b.length) (h1 : b.getD i 0 = 13 ∧ p < i) (h2 : ¬ n < least) : dgs b least p (f + 1) i n = (n, i, 0) := by rw [dgs, if_neg (by omega), if_pos h1, if_neg h2]
theorem dgs_syn (h : i < b.length) (h1 : ¬ (b.getD i 0 = 13 ∧ p < i)) (h2 : b.getD i 0 < 48 ∨ 57 < b.getD i 0 ∨ (i = p + 1 ∧ n = 0) ∨ (i = p ∧ b.getD i 0 = 48 ∧ 0 < least)) : dgs b least p (f + 1) i n = (0, 0, 2) := by rw [dgs, if_neg (by omega), if_neg h1, if_pos h2]
theorem dgs_full (h : i < b.length) (h1 : ¬ (b.getD i 0 = 13 ∧ p < i)) (h2 : ¬ (b.getD i 0 < 48 ∨ 57 < b.getD i 0 ∨ (i = p + 1 ∧ n = 0) ∨ (i = p ∧ b.getD i 0 = 48 ∧ 0 < least))) (h3 : 8000 < 10 * n + (b.getD i 0 - 48).toNat) : dgs b least p (f + 1) i n = (0, 0, 4) := by rw [dgs, if_neg (by omega), if_neg h1, if_neg h2, if_pos h3]
theorem dgs_step (h : i < b.length) (h1 : ¬ (b.getD i 0 = 13 ∧ p < i)) (h2 : ¬ (b.getD i 0 < 48 ∨ 57 < b.getD i 0 ∨ (i = p + 1 ∧ n = 0) ∨ (i = p ∧ b.getD i 0 = 48 ∧ 0 < least))) (h3 : ¬ 8000 < 10 * n + (b.getD i 0 - 48).toNat) :
    dgs b least p (f + 1) i n = dgs b least p f (i + 1) (10 * n + (b.getD i 0 - 48).toNat) := by rw [dgs, if_neg (by omega), if_neg h1, if_neg h2, if_neg h3]
end
theorem dgs_ok {b : List Int} {least p : Nat} : ∀ f i n, n ≤ 8000 → (dgs b least p f i n).2.2 = 0 → i ≤ (dgs b least p f i n).2.1 ∧ (dgs b least p f i n).2.1 < b.length ∧ (dgs b least p f i n).1 ≤ 8000 ∧ least ≤ (dgs b least p f i n).1 := by
  intro f
  induction f with
  | zero => intro i n _ h; simp [dgs] at h
  | succ f ih =>
    intro i n hn h
    by_cases h0 : b.length ≤ i
    · rw [dgs_short h0] at h; simp at h
    · by_cases h1 : b.getD i 0 = 13 ∧ p < i
      · by_cases h2 : n < least
        · rw [dgs_few (by omega) h1 h2] at h; simp at h
        · rw [dgs_end (by omega) h1 h2]; exact ⟨Nat.le_refl _, by simp only; omega, hn, by simp only; omega⟩
      · by_cases h2 : b.getD i 0 < 48 ∨ 57 < b.getD i 0 ∨ (i = p + 1 ∧ n = 0) ∨ (i = p ∧ b.getD i 0 = 48 ∧ 0 < least)
        · rw [dgs_syn (by omega) h1 h2] at h; simp at h
        · by_cases h3 : 8000 < 10 * n + (b.getD i 0 - 48).toNat
          · rw [dgs_full (by omega) h1 h2 h3] at h; simp at h
          · rw [dgs_step (by omega) h1 h2 h3] at h ⊢
            obtain ⟨a, c, d, e⟩ := ih (i + 1) _ (by omega) h
            exact ⟨by omega, c, d, e⟩
/-- A length behind its name, and the line's end. -/
def lenS (b : List Int) (least : Nat) (σ : St) : Nat × St :=
  let m := mtS b [58, 32] σ
  if m.2 = 0 then (let r := dgs b least m.1 (b.length + 1) m.1 0; (r.1, mtS b [13, 10] r.2)) else (0, m)
structure Hd where
  l : List Fld
  n : Int
  pieces : Bool
  σ : St
/-- Fields, up to the empty line. -/
def hdS (b : List Int) (least : Nat) (coded : Bool) : Nat → List Fld → St → Hd
  | 0, l, σ => ⟨l, -1, false, (σ.1, 8)⟩
  | f + 1, l, σ =>
    if σ.2 ≠ 0 then ⟨l, -1, false, σ⟩ else
    if σ.1 < b.length ∧ b.getD σ.1 0 = 13 then ⟨l, -1, false, mtS b [13, 10] σ⟩ else
    let u := utS b 58 smallB σ
    let σ2 := needS (!u.1.toList.isEmpty) u.2
    if σ2.2 ≠ 0 then ⟨l, -1, false, σ2⟩ else
    if (u.1.toList == [108, 101, 110, 103, 116, 104]) = true then ⟨l, (lenS b least σ2).1, false, mtS b [13, 10] (lenS b least σ2).2⟩ else
    if (u.1.toList == [99, 111, 100, 105, 110, 103]) = true ∧ coded = true then ⟨l, -1, true, mtS b [58, 32, 99, 104, 117, 110, 107, 101, 100, 13, 10, 13, 10] σ2⟩ else
    if ownB u.1 = true then ⟨l, -1, false, (σ2.1, 2)⟩ else
    if l.length = 40 then ⟨l, -1, false, (σ2.1, 4)⟩ else
    hdS b least coded f (l ++ [(u.1, (valS b σ2).1)]) (valS b σ2).2
theorem hdS_err {b : List Int} {least : Nat} {coded : Bool} {f : Nat} {l : List Fld} {σ : St} (h : σ.2 ≠ 0) : hdS b least coded (f + 1) l σ = ⟨l, -1, false, σ⟩ := by rw [hdS, if_pos h]
theorem hdS_end {b : List Int} {least : Nat} {coded : Bool} {f : Nat} {l : List Fld} {σ : St} (h : σ.2 = 0) (h13 : σ.1 < b.length ∧ b.getD σ.1 0 = 13) : hdS b least coded (f + 1) l σ = ⟨l, -1, false, mtS b [13, 10] σ⟩ := by
  rw [hdS, if_neg (by omega), if_pos h13]
/-- A field's name, and what is wrong with it. -/
def nmS (b : List Int) (σ : St) : ByteArray × St := ((utS b 58 smallB σ).1, needS (!(utS b 58 smallB σ).1.toList.isEmpty) (utS b 58 smallB σ).2)
theorem hdS_go {b : List Int} {least : Nat} {coded : Bool} {f : Nat} {l : List Fld} {σ : St} (h : σ.2 = 0) (h13 : ¬ (σ.1 < b.length ∧ b.getD σ.1 0 = 13)) : hdS b least coded (f + 1) l σ =
    (if (nmS b σ).2.2 ≠ 0 then ⟨l, -1, false, (nmS b σ).2⟩ else
    if ((nmS b σ).1.toList == [108, 101, 110, 103, 116, 104]) = true then ⟨l, (lenS b least (nmS b σ).2).1, false, mtS b [13, 10] (lenS b least (nmS b σ).2).2⟩ else
    if ((nmS b σ).1.toList == [99, 111, 100, 105, 110, 103]) = true ∧ coded = true then ⟨l, -1, true, mtS b [58, 32, 99, 104, 117, 110, 107, 101, 100, 13, 10, 13, 10] (nmS b σ).2⟩ else
    if ownB (nmS b σ).1 = true then ⟨l, -1, false, ((nmS b σ).2.1, 2)⟩ else
    if l.length = 40 then ⟨l, -1, false, ((nmS b σ).2.1, 4)⟩ else
    hdS b least coded f (l ++ [((nmS b σ).1, (valS b (nmS b σ).2).1)]) (valS b (nmS b σ).2).2) := by
  rw [hdS, if_neg (by omega), if_neg h13]; rfl
def bodyS (b : List Int) (n : Nat) (σ : St) : List Int × St :=
  if σ.2 ≠ 0 then ([], σ) else if b.length - σ.1 < n then ([], (0, 8)) else ((b.drop σ.1).take n, (σ.1 + n, 0))
def faultS (b : List Int) (σ : St) : Nat := if σ.2 = 8 ∧ 20000 < b.length then 4 else σ.2
/-- What is read as a request, and where it ends, or the fault. -/
def askC (b : List Int) : Rq × St :=
  let m := utS b 32 tokB (0, 0)
  let p := utS b 32 visB (mtS b [32] (needS (!m.1.toList.isEmpty) m.2))
  let h := valS b (mtS b [32, 69, 68, 71, 69, 47, 49, 13, 10, 104, 111, 115, 116] (needS (!p.1.toList.isEmpty) p.2))
  let d := hdS b 1 false 42 [] (needS (!h.1.toList.isEmpty) h.2)
  let y := if 0 < d.n then bodyS b d.n.toNat d.σ else ([], d.σ)
  (⟨m.1, p.1, h.1, d.l, y.1⟩, y.2)
/-- The request that bytes begin with: how many bytes, the fault. -/
def readAsk (b : List Int) : Rq × Nat × Nat :=
  if faultS b (askC b).2 = 0 then ((askC b).1, (askC b).2.1, 0) else (⟨⟨#[]⟩, ⟨#[]⟩, ⟨#[]⟩, [], []⟩, 0, faultS b (askC b).2)
/-- Three digits. -/
def cdS (b : List Int) : Nat → Nat → Nat × St → Nat × St
  | 0, _, x => x
  | f + 1, i, x =>
    if x.2.2 ≠ 0 then x
    else if b.length ≤ x.2.1 then (x.1, x.2.1, 8)
    else if b.getD x.2.1 0 < 48 ∨ 57 < b.getD x.2.1 0 ∨ (i = 0 ∧ (b.getD x.2.1 0 = 48 ∨ 53 < b.getD x.2.1 0)) then (x.1, x.2.1, 2)
    else cdS b f (i + 1) (10 * x.1 + (b.getD x.2.1 0 - 48).toNat, x.2.1 + 1, 0)
/-- A reply's head: its code, its fields. -/
def codeC (b : List Int) : Nat × St := cdS b 3 0 (0, mtS b [69, 68, 71, 69, 47, 49, 32] (0, 0))
def headC (b : List Int) : Hd := hdS b 0 true 42 [] (mtS b [13, 10] (codeC b).2)
def bodyC (b : List Int) (bare closed : Bool) (c : Nat) (d : Hd) : List Int × St :=
  if d.σ.2 ≠ 0 ∨ bare = true ∨ c < 200 ∨ c = 204 ∨ c = 304 then ([], d.σ)
  else if d.pieces = true then
    ((dec (b.drop d.σ.1) ((b.drop d.σ.1).length + 1) 0 []).1, (d.σ.1 + (dec (b.drop d.σ.1) ((b.drop d.σ.1).length + 1) 0 []).2.1, (dec (b.drop d.σ.1) ((b.drop d.σ.1).length + 1) 0 []).2.2))
  else if 0 ≤ d.n then bodyS b d.n.toNat d.σ
  else if 8000 < b.length - d.σ.1 then ([], (d.σ.1, 4))
  else if closed = false then ([], (d.σ.1, 8))
  else bodyS b (b.length - d.σ.1) d.σ
def tellC (b : List Int) (bare closed : Bool) : Rp × St := (⟨(codeC b).1, (headC b).l, (bodyC b bare closed (codeC b).1 (headC b)).1⟩, (bodyC b bare closed (codeC b).1 (headC b)).2)
/-- The reply that bytes begin with: how many bytes, the fault. -/
def readTell (b : List Int) (bare closed : Bool) : Rp × Nat × Nat :=
  if faultS b (tellC b bare closed).2 = 0 then ((tellC b bare closed).1, (tellC b bare closed).2.1, 0) else (⟨0, [], []⟩, 0, faultS b (tellC b bare closed).2)
theorem mt_app {b : List Int} : ∀ s t p, mt b (s ++ t) p = if (mt b s p).2 = 0 then mt b t (mt b s p).1 else mt b s p := by
  intro s
  induction s with
  | nil => intro t p; simp [ChunkD.mt]
  | cons c s ih =>
    intro t p
    rw [List.cons_append]
    by_cases h1 : b.length ≤ p
    · rw [mt_short h1, mt_short h1]; simp
    · by_cases h2 : b.getD p 0 = c
      · rw [mt_step (by omega) h2, mt_step (by omega) h2]; exact ih t (p + 1)
      · rw [mt_bad (by omega) h2, mt_bad (by omega) h2]; simp
theorem mtS_app (b s t : List Int) (σ : St) : mtS b (s ++ t) σ = mtS b t (mtS b s σ) := by
  unfold mtS
  by_cases h : σ.2 = 0
  · rw [if_pos h, if_pos h, mt_app]
  · rw [if_neg h, if_neg h, if_neg h]
/-- A place that is one, where there is no fault. -/
def Ok (b : List Int) (σ : St) : Prop := σ.2 = 0 → σ.1 ≤ b.length
theorem mtS_ok {b s : List Int} {σ : St} (h : Ok b σ) : Ok b (mtS b s σ) := by
  unfold mtS
  split
  · rename_i h0
    intro h1
    have hm := mt_ok s σ.1 h1
    have := h h0
    by_cases hs : s = []
    · subst hs; exact this
    · have := hm.2 hs; omega
  · exact h
theorem needS_ok {b : List Int} {ok : Bool} {σ : St} (h : Ok b σ) : Ok b (needS ok σ) := by
  unfold needS
  split
  · intro h1; simp at h1
  · exact h
theorem blankS_ok {b : List Int} {σ : St} (h : Ok b σ) : Ok b (blankS b σ) := by
  unfold blankS
  split
  · intro h1; simp at h1
  · exact h
theorem utS_ok {b : List Int} {stop : Int} {may : UInt8 → Bool} {σ : St} (h : Ok b σ) : Ok b (utS b stop may σ).2 := by
  unfold utS
  split
  · intro h1
    have := ut_ok (b := b) (stop := stop) (may := may) (p := σ.1) (b.length + 1) σ.1 (Nat.le_refl _) (by omega) h1
    simp only at this ⊢; omega
  · exact h
theorem utS_size {b : List Int} {stop : Int} {may : UInt8 → Bool} {σ : St} : (utS b stop may σ).1.size ≤ 400 := by
  unfold utS
  split
  · dsimp only
    split
    · rename_i h1
      have := ut_ok (b := b) (stop := stop) (may := may) (p := σ.1) (b.length + 1) σ.1 (Nat.le_refl _) (by omega) h1
      have h2 := txt_size b σ.1 (ut b stop may σ.1 (b.length + 1) σ.1).1
      omega
    · exact Nat.zero_le _
  · exact Nat.zero_le _
theorem valS_ok {b : List Int} {σ : St} (h : Ok b σ) : Ok b (valS b σ).2 := mtS_ok (needS_ok (utS_ok (blankS_ok (mtS_ok h))))
theorem lenS_ok {b : List Int} {least : Nat} {σ : St} (h : Ok b σ) : Ok b (lenS b least σ).2 := by
  unfold lenS
  dsimp only
  split
  · refine mtS_ok fun h1 => ?_
    have := dgs_ok (b := b) (least := least) (p := (mtS b [58, 32] σ).1) (b.length + 1) (mtS b [58, 32] σ).1 0 (by omega) h1
    omega
  · exact mtS_ok h
theorem hdS_ok {b : List Int} {least : Nat} {coded : Bool} : ∀ f l σ, Ok b σ → Ok b (hdS b least coded f l σ).σ := by
  intro f
  induction f with
  | zero => intro l σ h h1; simp [hdS] at h1
  | succ f ih =>
    intro l σ h
    unfold hdS
    split
    · exact h
    split
    · exact mtS_ok h
    dsimp only
    split
    · exact needS_ok (utS_ok h)
    split
    · exact mtS_ok (lenS_ok (needS_ok (utS_ok h)))
    split
    · exact mtS_ok (needS_ok (utS_ok h))
    split
    · intro h1; simp at h1
    split
    · intro h1; simp at h1
    · exact ih _ _ (valS_ok (needS_ok (utS_ok h)))
theorem bodyS_ok {b : List Int} {n : Nat} {σ : St} (h : Ok b σ) : Ok b (bodyS b n σ).2 := by
  unfold bodyS
  split
  · exact h
  · rename_i h0
    split
    · intro h1; simp at h1
    · intro _; have := h (by omega); simp only; omega
end Go.Proofs.YtkohbbnnjakhjaaDoor.ReadS
