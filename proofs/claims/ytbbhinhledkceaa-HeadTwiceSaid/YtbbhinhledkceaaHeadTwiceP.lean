/-
  What was said is short the next time: the plain law over encL, with no program in sight.
  Conditions: none.
-/
import Derived.Test.YtbbhinhledkceaaHeadEncS
import Derived.Test.YtbbhinhledkceaaHeadFull
namespace Go.Proofs.Ytbbhinhledkceaa.HeadF
open Go.RowKit RowsK FieldRows ModL TableC HeadC CodeC WireC
set_option linter.unusedVariables false
set_option linter.unusedSimpArgs false

theorem putL_neP (n p first : Int) : putL n p first ≠ [] := by
  unfold putL
  split <;> simp
theorem fst_pos {p : Fld → Bool} {L : List Fld} {k : Nat} (h : fst p L = k + 1) : ∃ hk : k < L.length, p L[k] = true := by
  unfold fst at h
  cases hq : L.findIdx? p with
  | none => rw [hq] at h; simp at h
  | some i =>
    rw [hq] at h
    obtain rfl : i = k := by simpa using h
    obtain ⟨hi, hp, -⟩ := List.findIdx?_eq_some_iff_getElem.1 hq
    exact ⟨hi, hp⟩
theorem fst_mem {p : Fld → Bool} {L : List Fld} {x : Fld} (hx : x ∈ L) (hp : p x = true) : 0 < fst p L := by
  unfold fst
  cases hq : L.findIdx? p with
  | none => have := List.findIdx?_eq_none_iff.1 hq x hx; rw [hp] at this; cases this
  | some i => simp
theorem ba_eq {x y : ByteArray} (h : (x.toList == y.toList) = true) : x = y := by
  have h := eq_of_beq h
  rw [ByteArray.toList_eq, ByteArray.toList_eq] at h
  apply ByteArray.ext
  exact Array.ext' h
theorem sameF_eq {f x : Fld} (h : sameF f x = true) : x = f := by
  unfold sameF at h
  rw [Bool.and_eq_true] at h
  exact Prod.ext (ba_eq h.1) (ba_eq h.2)
theorem sameF_self (f : Fld) : sameF f f = true := by unfold sameF; simp
theorem sameN_eq {f x : Fld} (h : sameN f x = true) : x.1 = f.1 := ba_eq h
theorem whole_at {f : Fld} {L : List Fld} {k : Nat} (h : fst (sameF f) L = k + 1) : k < L.length ∧ L.getD k nof = f := by
  obtain ⟨hk, hp⟩ := fst_pos h
  refine ⟨hk, ?_⟩
  rw [List.getD_eq_getElem?_getD, List.getElem?_eq_getElem hk, Option.getD_some]
  exact sameF_eq hp
theorem name_at {f : Fld} {L : List Fld} {k : Nat} (h : fst (sameN f) L = k + 1) : k < L.length ∧ (L.getD k nof).1 = f.1 := by
  obtain ⟨hk, hp⟩ := fst_pos h
  refine ⟨hk, ?_⟩
  rw [List.getD_eq_getElem?_getD, List.getElem?_eq_getElem hk, Option.getD_some]
  exact sameN_eq hp
/-- The size of a field, and of fields. -/
def sz1 (f : Fld) : Int := f.1.size + f.2.size + 32
def szs : List Fld → Int
  | [] => 0
  | f :: l => sz1 f + szs l
def fits (l : List Fld) : Prop := ∀ f ∈ l, f.1.size ≤ 400 ∧ f.2.size ≤ 400
theorem fits_of {l : List Fld} (h : longB l = false) : fits l := by
  intro f hf
  unfold longB at h
  rw [List.any_eq_false] at h
  have h2 := h f hf
  simp at h2
  omega
theorem sizeW_ok {f : Fld} (h : f.1.size ≤ 400 ∧ f.2.size ≤ 400) : sizeW f = sz1 f := by
  unfold sizeW sz1 wrap64
  omega
theorem szs_bd : ∀ {l : List Fld}, fits l → 32 * (l.length : Int) ≤ szs l ∧ szs l ≤ 832 * (l.length : Int) := by
  intro l
  induction l with
  | nil => intro _; simp [szs]
  | cons f l ih =>
    intro h
    have h1 := ih (fun x hx => h x (List.mem_cons_of_mem _ hx))
    have h2 := h f (List.mem_cons_self ..)
    simp only [szs, List.length_cons, sz1]
    omega
theorem wgt_ok : ∀ (l : List Fld) (n : Int), fits l → 0 ≤ n → n + szs l ≤ 4611686018427387904 → wgt l n = n + szs l := by
  intro l
  induction l with
  | nil => intro n _ _ _; simp [wgt, szs]
  | cons f l ih =>
    intro n h h0 h1
    have h2 := h f (List.mem_cons_self ..)
    have h3 := szs_bd (fun x hx => h x (List.mem_cons_of_mem _ hx) : fits l)
    have e : wrap64 (n + sizeW f) = n + sz1 f := by
      rw [sizeW_ok h2]
      simp only [szs] at h1
      unfold sz1 at h1 ⊢
      unfold wrap64
      omega
    simp only [wgt, szs] at h1 ⊢
    rw [e, ih _ (fun x hx => h x (List.mem_cons_of_mem _ hx)) (by unfold sz1; omega) (by omega)]
    omega
theorem shr_keep (l : List Fld) (most sz : Int) (h : sz ≤ most) : shrN l most l.length sz = (l.length, sz) := by
  cases hn : l.length with
  | zero => rfl
  | succ k => unfold shrN; rw [if_neg (by omega)]
theorem addL_ok {max sz : Int} {l : List Fld} {f : Fld} (hf : f.1.size ≤ 400 ∧ f.2.size ≤ 400) (hm : max ≤ 4096) (h0 : 0 ≤ sz) (h : sz + sz1 f ≤ max) : addL max l sz f = (f :: l, sz + sz1 f, true) := by
  have hz : 32 ≤ sz1 f ∧ sz1 f ≤ 832 := by unfold sz1; omega
  unfold addL
  rw [sizeW_ok hf, if_neg (by omega)]
  have e : wrap64 (max - sz1 f) = max - sz1 f := by unfold wrap64; omega
  rw [e, shr_keep _ _ _ (by omega)]
  simp only [List.take_length]
  have e2 : wrap64 (sz + sz1 f) = sz + sz1 f := by unfold wrap64; omega
  rw [e2]
theorem enc1_whole {max sz : Int} {l : List Fld} {f : Fld} (h : 0 < fst (sameF f) (allL l)) : enc1 max f l sz = (putL (fst (sameF f) (allL l) : Nat) (7 : Nat) 128, l, sz) := by unfold enc1; rw [if_pos h]
theorem first_pass {max : Int} (hm : max ≤ 4096) : ∀ (l lc : List Fld) (sz : Int), fits l → 0 ≤ sz → sz + szs l ≤ max →
    (∀ f ∈ lc, f ∈ (encL max l lc sz).2.1) ∧ (∀ f ∈ l, f ∈ allL (encL max l lc sz).2.1) ∧ (encL max l lc sz).2.1.length ≤ lc.length + l.length := by
  intro l
  induction l with
  | nil => intro lc sz _ _ _; exact ⟨fun f hf => hf, fun f hf => absurd hf (by simp), by simp [encL]⟩
  | cons f l ih =>
    intro lc sz hfit h0 h
    have hf := hfit f (List.mem_cons_self ..)
    have hfl : fits l := fun x hx => hfit x (List.mem_cons_of_mem _ hx)
    have hb := szs_bd hfl
    simp only [szs] at h
    have key : ∃ (lc2 : List Fld) (s2 : Int), (encL max (f :: l) lc sz).2 = (encL max l lc2 s2).2 ∧ (∀ x ∈ lc, x ∈ lc2) ∧ f ∈ allL lc2 ∧ lc2.length ≤ lc.length + 1 ∧ 0 ≤ s2 ∧ s2 + szs l ≤ max := by
      by_cases hw : 0 < fst (sameF f) (allL lc)
      · refine ⟨lc, sz, ?_, fun x hx => hx, ?_, by omega, h0, ?_⟩
        · simp only [encL]; rw [enc1_whole hw]
        · obtain ⟨k, hk⟩ : ∃ k, fst (sameF f) (allL lc) = k + 1 := ⟨fst (sameF f) (allL lc) - 1, by omega⟩
          obtain ⟨hk1, hp⟩ := fst_pos hk
          rw [← sameF_eq hp]
          exact List.getElem_mem hk1
        · unfold sz1 at h; omega
      · refine ⟨f :: lc, sz + sz1 f, ?_, fun x hx => List.mem_cons_of_mem _ hx, by unfold allL; exact List.mem_append_right _ (List.mem_cons_self ..), by simp, by unfold sz1; omega, by omega⟩
        simp only [encL]
        unfold enc1
        rw [if_neg hw, addL_ok hf hm h0 (by omega)]
    obtain ⟨lc2, s2, he, h1, h2, h3, h4, h5⟩ := key
    obtain ⟨i1, i2, i3⟩ := ih lc2 s2 hfl h4 h5
    rw [he]
    refine ⟨fun x hx => i1 x (h1 x hx), ?_, ?_⟩
    · intro x hx
      rcases List.mem_cons.1 hx with rfl | hx
      · unfold allL at h2 ⊢
        rcases List.mem_append.1 h2 with q | q
        · exact List.mem_append_left _ q
        · exact List.mem_append_right _ (i1 _ q)
      · exact i2 x hx
    · simp only [List.length_cons]; omega
theorem second_pass {max : Int} : ∀ (l lc : List Fld) (sz : Int), (∀ f ∈ l, f ∈ allL lc) → (allL lc).length < 127 → (encL max l lc sz).2 = (lc, sz) ∧ (encL max l lc sz).1.length = l.length := by
  intro l
  induction l with
  | nil => intro lc sz _ _; exact ⟨rfl, rfl⟩
  | cons f l ih =>
    intro lc sz h hl
    have hw : 0 < fst (sameF f) (allL lc) := fst_mem (h f (List.mem_cons_self ..)) (sameF_self f)
    have hle := fst_le (sameF f) (allL lc)
    obtain ⟨i1, i2⟩ := ih lc sz (fun x hx => h x (List.mem_cons_of_mem _ hx)) hl
    have hp : (putL (fst (sameF f) (allL lc) : Nat) (7 : Nat) 128).length = 1 := by
      have hmm : mask ((7 : Nat) : Int) = 127 := rfl
      unfold putL
      rw [hmm, if_pos (by omega)]
      rfl
    simp only [encL]
    rw [enc1_whole hw]
    refine ⟨i1, ?_⟩
    rw [List.length_append, List.length_cons]
    simp only
    rw [hp, i2]
    omega
end Go.Proofs.Ytbbhinhledkceaa.HeadF
