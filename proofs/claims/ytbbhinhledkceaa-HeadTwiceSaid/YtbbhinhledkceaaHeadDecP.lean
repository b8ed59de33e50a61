/-
  What Encode says is read as it was: the plain law over enc1, numS and litS, with no program in sight.
  Conditions: none.
-/
import Derived.Test.YtbbhinhledkceaaHeadTwiceP
import Derived.Test.YtbbhinhledkceaaHeadLit
import Derived.Test.YtbbhinhledkceaaHeadEnc
namespace Go.Proofs.Ytbbhinhledkceaa.HeadF
open Go.RowKit RowsK FieldRows ModL TableC HeadC CodeC WireC
set_option linter.unusedVariables false
set_option linter.unusedSimpArgs false

theorem putL_bdG {n bits first : Int} (h0 : 0 ≤ n) (h1 : n ≤ 2147483647) (hf0 : 0 ≤ first) (hm0 : 0 ≤ mask bits) (hm1 : first + mask bits ≤ 255) : ∀ z ∈ putL n bits first, 0 ≤ z ∧ z ≤ 255 := by
  intro z hz
  unfold putL at hz
  generalize mask bits = m at *
  split at hz
  · obtain rfl := List.mem_singleton.1 hz
    omega
  · rcases List.mem_cons.1 hz with rfl | hz
    · omega
    · exact tail_bd 4 _ (by omega) (by have : (128 : Int) ^ (4 + 1) = 34359738368 := rfl; omega) z hz
theorem head_whole (n : Nat) (rest : List Int) : 128 ≤ (putL n (7 : Nat) 128 ++ rest).getD 0 0 ∧ (putL n (7 : Nat) 128 ++ rest).getD 0 0 ≤ 255 := by
  have hmm : mask ((7 : Nat) : Int) = 127 := rfl
  unfold putL
  rw [hmm]
  split
  · show 128 ≤ (128 + (n : Int)) ∧ (128 + (n : Int)) ≤ 255
    omega
  · show (128 : Int) ≤ 128 + 127 ∧ (128 + 127 : Int) ≤ 255
    omega
theorem head_name (n : Nat) (rest : List Int) : 64 ≤ (putL n (6 : Nat) 64 ++ rest).getD 0 0 ∧ (putL n (6 : Nat) 64 ++ rest).getD 0 0 ≤ 127 := by
  have hmm : mask ((6 : Nat) : Int) = 63 := rfl
  unfold putL
  rw [hmm]
  split
  · show 64 ≤ (64 + (n : Int)) ∧ (64 + (n : Int)) ≤ 127
    omega
  · show (64 : Int) ≤ 64 + 63 ∧ (64 + 63 : Int) ≤ 127
    omega
theorem num_whole (k : Nat) (hk : k ≤ 2000000) (rest : List Int) : numS (putL ((k + 1 : Nat) : Int) (7 : Nat) 128 ++ rest) 0 7 = ((k : Int) + 1, rest, 0) := by
  have h := get_told (n := ((k + 1 : Nat) : Int)) (p := 7) (first := 128) (rest := rest) (by decide) (by decide) (by omega) (by omega) (by decide)
  unfold numS
  rw [if_neg (by simp), h]
  simp only [List.drop_left]
  rw [show ((k + 1 : Nat) : Int) = (k : Int) + 1 from by omega]
theorem ba_back (s : ByteArray) : (⟨s.data.toList.toArray⟩ : ByteArray) = s := by
  apply ByteArray.ext
  simp
theorem text_told (s : ByteArray) (hs : s.size ≤ 400) (rest : List Int) : textS (textL s.data.toList ++ rest) 0 = (s.data.toList, rest, 0) := by
  have hsl : s.data.toList.length = s.size := by rw [Array.length_toList]; rfl
  unfold textS
  rw [if_neg (by simp), rt_told _ _ (by omega)]
  simp only [List.drop_left]
theorem lit_told (fa fb : ByteArray) (ha : fa.size ≤ 400) (hb : fb.size ≤ 400) (lc : List Fld) (hl : lc.length ≤ 1000000) (rest : List Int) (nm : Nat) (hn : fst (sameN (fa, fb)) (allL lc) = nm) :
    litS lc (((putL (nm : Nat) (6 : Nat) 64 ++ if nm = 0 then textL fa.data.toList else []) ++ textL fb.data.toList) ++ rest) 6 = ((fa, fb), rest, 0) := by
  have hle := fst_le (sameN (fa, fb)) (allL lc)
  have hal : (allL lc).length = 12 + lc.length := by unfold allL; rw [List.length_append]; rfl
  rw [hn, hal] at hle
  have h := fun R => get_told (n := (nm : Int)) (p := 6) (first := 64) (rest := R) (by decide) (by decide) (by omega) (by omega) (by decide)
  rw [List.append_assoc, List.append_assoc]
  unfold litS
  rw [h]
  simp only [List.drop_left]
  by_cases h0 : nm = 0
  · subst h0
    rw [if_neg (by simp), if_pos rfl, text_told fa ha]
    simp only
    rw [text_told fb hb]
  · obtain ⟨k, rfl⟩ : ∃ k, nm = k + 1 := ⟨nm - 1, by omega⟩
    obtain ⟨hk, he⟩ := name_at hn
    rw [if_pos ⟨trivial, by omega⟩, if_pos (by omega), if_neg h0, List.nil_append, text_told fb hb]
    have ek : (((k + 1 : Nat) : Int)).toNat - 1 = k := by omega
    rw [ek, he]
theorem encB_bd (wh nm : Nat) (hw : wh ≤ 2000000) (hnm : nm ≤ 2000000) (fa fb : List UInt8) (h1 : fa.length ≤ 400) (h2 : fb.length ≤ 400) (l l' : List Fld) (s s' : Int) : ∀ z ∈ (if 0 < wh then (putL wh (7 : Nat) 128, l, s) else ((putL nm (6 : Nat) 64 ++ if nm = 0 then textL fa else []) ++ textL fb, l', s')).1, 0 ≤ z ∧ z ≤ 255 := by
  have ta := textL_bd fa (by omega)
  have tb := textL_bd fb (by omega)
  have m6 : mask ((6 : Nat) : Int) = 63 := rfl
  have m7 : mask ((7 : Nat) : Int) = 127 := rfl
  have p7 := putL_bdG (n := (wh : Int)) (bits := (7 : Nat)) (first := 128) (by omega) (by omega) (by decide) (by rw [m7]; decide) (by rw [m7]; decide)
  have p6 := putL_bdG (n := (nm : Int)) (bits := (6 : Nat)) (first := 64) (by omega) (by omega) (by decide) (by rw [m6]; decide) (by rw [m6]; decide)
  by_cases hwp : 0 < wh
  · rw [if_pos hwp]
    generalize putL (wh : Int) (7 : Nat) 128 = A at *
    exact p7
  · rw [if_neg hwp]
    intro z hz
    rcases List.mem_append.1 hz with hz | hz
    · rcases List.mem_append.1 hz with hz | hz
      · exact p6 z hz
      · split at hz
        · exact ta z hz
        · exact absurd hz (by simp)
    · exact tb z hz
theorem enc1_bd (max : Int) (f : Fld) (l : List Fld) (s : Int) (hf : f.1.size ≤ 400 ∧ f.2.size ≤ 400) (hl : l.length ≤ 1000000) : ∀ z ∈ (enc1 max f l s).1, 0 ≤ z ∧ z ≤ 255 := by
  have hle := fst_le (sameF f) (allL l)
  have hle2 := fst_le (sameN f) (allL l)
  have hal : (allL l).length = 12 + l.length := by unfold allL; rw [List.length_append]; rfl
  have e1 : f.1.data.toList.length = f.1.size := by rw [Array.length_toList]; rfl
  have e2 : f.2.data.toList.length = f.2.size := by rw [Array.length_toList]; rfl
  exact encB_bd _ _ (by omega) (by omega) _ _ (by omega) (by omega) _ _ _ _
theorem encL_bd (max : Int) : ∀ (l lc : List Fld) (s : Int), fits l → lc.length + l.length ≤ 1000000 → (∀ z ∈ (encL max l lc s).1, 0 ≤ z ∧ z ≤ 255) ∧ (encL max l lc s).1.length ≤ 1000 * l.length := by
  intro l
  induction l with
  | nil => intro lc s _ _; exact ⟨fun z hz => absurd hz (by simp [encL]), by simp [encL]⟩
  | cons f l ih =>
    intro lc s hf hl
    have hf1 := hf f (List.mem_cons_self ..)
    have hl2 : lc.length + (l.length + 1) ≤ 1000000 := hl
    have h1 := enc1_bd max f lc s hf1 (by omega)
    have h2 := enc1_len max f lc s hf1
    have h3 := enc1_len1 max f lc s
    have hc : encL max (f :: l) lc s = ((enc1 max f lc s).1 ++ (encL max l (enc1 max f lc s).2.1 (enc1 max f lc s).2.2).1, (encL max l (enc1 max f lc s).2.1 (enc1 max f lc s).2.2).2) := rfl
    rw [hc]
    generalize enc1 max f lc s = X at *
    obtain ⟨i1, i2⟩ := ih X.2.1 X.2.2 (fun x hx => hf x (List.mem_cons_of_mem _ hx)) (by omega)
    constructor
    · intro z hz
      rcases List.mem_append.1 hz with hz | hz
      · exact h1 z hz
      · exact i1 z hz
    · show (X.1 ++ (encL max l X.2.1 X.2.2).1).length ≤ 1000 * (l.length + 1)
      rw [List.length_append]
      omega
theorem szs_app (a b : List Fld) : szs (a ++ b) = szs a + szs b := by
  induction a with
  | nil => simp [szs]
  | cons f a ih => simp only [List.cons_append, szs, ih]; omega
theorem full_take {l : List Fld} (hf : fits l) (h : fullB l = false) (k : Nat) : fullB (l.take k) = false := by
  unfold fullB at h ⊢
  have hk : (l.take k).length ≤ l.length := by rw [List.length_take]; omega
  by_cases h40 : 40 < l.length
  · rw [if_pos h40] at h; cases h
  · rw [if_neg h40] at h
    rw [if_neg (by omega)]
    have hfk : fits (l.take k) := fun x hx => hf x (List.mem_of_mem_take hx)
    have hfd : fits (l.drop k) := fun x hx => hf x (List.mem_of_mem_drop hx)
    have b1 := szs_bd hf
    have b2 := szs_bd hfk
    have b3 := szs_bd hfd
    have e : szs l = szs (l.take k) + szs (l.drop k) := by rw [← szs_app, List.take_append_drop]
    rw [wgt_ok l 0 hf (by omega) (by omega)] at h
    rw [wgt_ok _ 0 hfk (by omega) (by omega)]
    simp only [decide_eq_false_iff_not] at h ⊢
    omega
end Go.Proofs.Ytbbhinhledkceaa.HeadF
