/-
  Package line's tests of a text, in plain words: Token, Plain, Word.
  Conditions: none.
-/
import Derived.Test.YtooplackonnemaaDoorShelf
import Derived.Test.YtooplackonnemaaDoorLayCF
import Derived.Test.YtooplackonnemaaDoorConv
import Derived.Test.YtooplackonnemaaDoorMod
import Derived.Shelf.Strings.SlTrimAscii
import Derived.Lib.IndexAny
import Derived.Lib.Hide
namespace Go.Proofs.YtooplackonnemaaDoor.LineC
open Go.RowKit Go.Shelf
set_option linter.unusedVariables false
set_option linter.unusedSimpArgs false

/-- A sign that a token may have. -/
def tokB (c : UInt8) : Bool := (97 ≤ c.toNat && c.toNat ≤ 122) || (48 ≤ c.toNat && c.toNat ≤ 57) || c.toNat == 45 || c.toNat == 95 || (65 ≤ c.toNat && c.toNat ≤ 90)
/-- A sign that a name may have. -/
def smallB (c : UInt8) : Bool := (97 ≤ c.toNat && c.toNat ≤ 122) || (48 ≤ c.toNat && c.toNat ≤ 57) || c.toNat == 45 || c.toNat == 95
def tokL (l : List UInt8) : Bool := !l.isEmpty && decide (l.length ≤ 400) && l.all tokB
def plainL (l : List UInt8) : Bool := decide (l.length ≤ 400) && (l.head? != some 32) && (l.getLast? != some 32) && l.all (fun c => 32 ≤ c.toNat && c.toNat ≤ 126)
def wordL (l : List UInt8) : Bool := !l.isEmpty && plainL l && !l.contains 32
def letters : List UInt8 := [97, 98, 99, 100, 101, 102, 103, 104, 105, 106, 107, 108, 109, 110, 111, 112, 113, 114, 115, 116, 117, 118, 119, 120, 121, 122, 48, 49, 50, 51, 52, 53, 54, 55, 56, 57, 45, 95, 65, 66, 67, 68, 69, 70, 71, 72, 73, 74, 75, 76, 77, 78, 79, 80, 81, 82, 83, 84, 85, 86, 87, 88, 89, 90]
def smalls : List UInt8 := letters.take 38
set_option maxRecDepth 100000 in
theorem letters_tok (c : UInt8) : letters.contains c = tokB c := by
  have h : ∀ n : Fin 256, letters.contains (UInt8.ofNat n.val) = tokB (UInt8.ofNat n.val) := by decide
  have := h ⟨c.toNat, c.toNat_lt⟩
  simpa using this
set_option maxRecDepth 100000 in
theorem smalls_small (c : UInt8) : smalls.contains c = smallB c := by
  have h : ∀ n : Fin 256, smalls.contains (UInt8.ofNat n.val) = smallB (UInt8.ofNat n.val) := by decide
  have := h ⟨c.toNat, c.toNat_lt⟩
  simpa using this
theorem dw_nil {α : Type} (p : α → Bool) : ∀ l : List α, l.dropWhile p = [] ↔ ∀ x ∈ l, p x = true
  | [] => by simp
  | a :: l => by
    rcases h : p a with _ | _
    · rw [List.dropWhile_cons_of_neg (by simp [h])]; simp [h]
    · rw [List.dropWhile_cons_of_pos h, dw_nil p l]; simp [h]
theorem dw_len {α : Type} (p : α → Bool) (l : List α) : (l.dropWhile p).length ≤ l.length := (List.dropWhile_sublist p).length_le
theorem dw_self {α : Type} (p : α → Bool) : ∀ l : List α, (l.dropWhile p).length = l.length ↔ ∀ x, l.head? = some x → p x = false
  | [] => by simp
  | a :: l => by
    rcases h : p a with _ | _
    · rw [List.dropWhile_cons_of_neg (by simp [h])]; simp [h]
    · rw [List.dropWhile_cons_of_pos h]
      have := dw_len p l
      constructor
      · intro e; rw [List.length_cons] at e; omega
      · intro e; have := e a rfl; rw [h] at this; cases this
theorem dw_eq {α : Type} (p : α → Bool) (l : List α) (h : (l.dropWhile p).length = l.length) : l.dropWhile p = l := (List.dropWhile_suffix p).eq_of_length h
/-- What is cut off at both ends is nothing but what is in the set. -/
theorem trimS_nil (l cs : List UInt8) : Lib.trimS l cs = [] ↔ l.all (cs.contains ·) = true := by
  unfold Lib.trimS Lib.trimLeftS Lib.trimRightS
  rw [dw_nil]
  constructor
  · intro h
    rw [List.all_eq_true]
    rcases Decidable.em (∃ x ∈ l, cs.contains x = false) with ⟨x, hx, hc⟩ | hn
    · exfalso
      have : ∃ y, y ∈ (l.reverse.dropWhile (cs.contains ·)) ∧ cs.contains y = false := by
        have aux : ∀ m : List UInt8, x ∈ m → ∃ y, y ∈ m.dropWhile (cs.contains ·) ∧ cs.contains y = false := by
          intro m
          induction m with
          | nil => intro h; cases h
          | cons a m ih =>
            intro hm
            by_cases ha : cs.contains a = true
            · rw [List.dropWhile_cons_of_pos (by simpa using ha)]
              rcases List.mem_cons.1 hm with rfl | hm
              · rw [hc] at ha; cases ha
              · exact ih hm
            · rw [List.dropWhile_cons_of_neg (by simpa using ha)]
              exact ⟨a, List.mem_cons_self, by simpa using ha⟩
        exact aux _ (List.mem_reverse.2 hx)
      obtain ⟨y, hy, hyc⟩ := this
      have := h y (List.mem_reverse.2 hy)
      rw [hyc] at this; cases this
    · intro x hx
      rcases hb : cs.contains x with _ | _
      · exact absurd ⟨x, hx, hb⟩ hn
      · rfl
  · intro h x hx
    rw [List.all_eq_true] at h
    have := (List.dropWhile_sublist (cs.contains ·) (l := l.reverse)).subset (List.mem_reverse.1 hx)
    exact h x (List.mem_reverse.1 this)
theorem trimB_self (l : List UInt8) (c : UInt8) : Lib.trimB l c = l ↔ l.head? ≠ some c ∧ l.getLast? ≠ some c := by
  unfold Lib.trimB Lib.trimLeftB Lib.trimRightB
  have h1 := dw_len (· == c) l.reverse
  have h2 := dw_len (· == c) (l.reverse.dropWhile (· == c)).reverse
  rw [List.length_reverse] at h1 h2
  constructor
  · intro e
    have el := congrArg List.length e
    have e1 : (l.reverse.dropWhile (· == c)).length = l.reverse.length := by rw [List.length_reverse]; omega
    have e2 := dw_eq _ _ e1
    rw [e2, List.reverse_reverse] at el e
    have f1 := (dw_self _ _).1 e1
    have f2 := (dw_self _ _).1 el
    refine ⟨fun h => ?_, fun h => ?_⟩
    · have := f2 c h; simp at this
    · rw [List.head?_reverse] at f1
      have := f1 c h; simp at this
  · rintro ⟨g1, g2⟩
    have e1 : (l.reverse.dropWhile (· == c)).length = l.reverse.length := (dw_self _ _).2 fun x hx => by
      rw [List.head?_reverse] at hx
      rcases h : (x == c) with _ | _
      · rfl
      · exact absurd (by rw [hx, eq_of_beq h]) g2
    rw [dw_eq _ _ e1, List.reverse_reverse]
    exact dw_eq _ _ ((dw_self _ _).2 fun x hx => by
      rcases h : (x == c) with _ | _
      · rfl
      · exact absurd (by rw [hx, eq_of_beq h]) g1)
theorem trim_any (s cutset : ByteArray) (w : World) (hs : s.size ≤ 9223372036854775807) (hcs : cutset.size < 4294967281) (hascii : ∀ (j : Nat) b, cutset.data.toList[j]? = some b → b.toNat < 128) :
    Calls Tryd.prog 39 #[.string s, .string cutset] w fun e w' => e = .returned (.string ⟨(Lib.trimS s.data.toList cutset.data.toList).toArray⟩) ∧ Below w.heap.size w w' :=
  Any.strings_Trim_laid Tryd.lays160 (by kernel_rfl) s cutset w hs hcs hascii
theorem size_list (s : ByteArray) : s.size = s.data.toList.length := by cases s; simp [ByteArray.size]
theorem emp_list (s : ByteArray) : s.toList.isEmpty = s.data.toList.isEmpty := by rw [ByteArray.toList_eq]
theorem ascii_letters : ∀ (j : Nat) b, (⟨letters.toArray⟩ : ByteArray).data.toList[j]? = some b → b.toNat < 128 := fun j b h => by
  have hm := List.mem_of_getElem? h
  have : ∀ x ∈ letters, x.toNat < 128 := by decide
  exact this b (by simpa using hm)
set_option maxRecDepth 100000 in
set_option maxHeartbeats 4000000 in
theorem token_any (s : ByteArray) (w : World) : Calls Tryd.prog 26 #[.string s] w fun e w' => e = .returned (.bool (tokL s.data.toList)) ∧ Below w.heap.size w w' := by
  have hsz := size_list s
  have hem := emp_list s
  by_cases h0 : s.data.toList = []
  · have hq : s.toList.isEmpty = true := by rw [hem, h0]; rfl
    have hr : tokL s.data.toList = false := by rw [h0]; rfl
    rw [hr]
    go_enter Tryd.func26, Tryd.ntmps26
    go_wp2_with fail
    go_ret
    exact ⟨rfl, Below.refl _ _⟩
  · have hq : s.toList.isEmpty = false := by rw [hem]; cases h : s.data.toList with | nil => exact absurd h h0 | cons _ _ => rfl
    by_cases h1 : s.size ≤ 400
    · have HT := Lib.hid (trim_any s ⟨letters.toArray⟩ w (by omega) (by decide) ascii_letters)
      have hres : tokL s.data.toList = (⟨(Lib.trimS s.data.toList letters).toArray⟩ : ByteArray).toList.isEmpty := by
        rw [emp_list]
        show tokL s.data.toList = (Lib.trimS s.data.toList letters).isEmpty
        unfold tokL
        rw [show s.data.toList.isEmpty = false by rw [← hem, hq], show (decide (s.data.toList.length ≤ 400)) = true from decide_eq_true (by omega)]
        rw [Bool.eq_iff_iff]
        simp only [Bool.not_false, Bool.true_and, List.isEmpty_iff, trimS_nil, letters_tok]
      have HR := Lib.hid hres
      rw [hres]
      generalize (⟨(Lib.trimS s.data.toList letters).toArray⟩ : ByteArray) = t at *
      clear hres hem hsz h0
      go_enter Tryd.func26, Tryd.ntmps26
      go_wp2_with (go_at_call 39; (refine HT.out.mono ?_); rintro e w1 ⟨rfl, hB1⟩)
      go_ret
      exact ⟨rfl, hB1⟩
    · have hr : tokL s.data.toList = false := by
        unfold tokL
        rw [show (decide (s.data.toList.length ≤ 400)) = false from decide_eq_false (by omega)]
        simp
      have h2 : ¬ (s.size : Int) ≤ 400 := by omega
      rw [hr]
      clear hem hsz h0
      go_enter Tryd.func26, Tryd.ntmps26
      go_wp2_with fail
      go_ret
      exact ⟨rfl, Below.refl _ _⟩
theorem trim1_any (s : ByteArray) (w : World) (hs : s.size ≤ 9223372036854775807) :
    Calls Tryd.prog 39 #[.string s, .string ⟨#[32]⟩] w fun e w' => e = .returned (.string ⟨(Lib.trimB s.data.toList 32).toArray⟩) ∧ Below w.heap.size w w' :=
  (Tryd.strings_Trim_one s 32 (by decide) w hs).mono (by
    rintro e w' ⟨rfl, rfl | rfl⟩
    · exact ⟨rfl, Below.refl _ _⟩
    · exact ⟨rfl, ⟨rfl, rfl, rfl, Nat.le_refl _, fun _ _ => rfl⟩⟩)
def okB (c : UInt8) : Bool := 32 ≤ c.toNat && c.toNat ≤ 126
theorem cl_any (c : UInt8) (w : World) : Calls Tryd.prog 43 #[.int .u8 c.toNat] w fun e w' => e = .returned (.bool (!okB c)) ∧ w = w' := by
  have h := c.toNat_lt
  unfold okB
  by_cases h1 : (c.toNat : Int) < 32
  · rw [show (!((decide (32 ≤ c.toNat)) && (decide (c.toNat ≤ 126)))) = true by rw [decide_eq_false (by omega)]; rfl]
    go_enter Tryd.func43, Tryd.ntmps43
    go_wp2_with fail
    go_ret
    exact ⟨rfl, rfl⟩
  · have h2 : (!((decide (32 ≤ c.toNat)) && (decide (c.toNat ≤ 126)))) = decide ((126 : Int) < (c.toNat : Int)) := by
      rw [decide_eq_true (p := 32 ≤ c.toNat) (by omega)]
      by_cases h3 : c.toNat ≤ 126
      · rw [decide_eq_true h3, decide_eq_false (by omega)]; rfl
      · rw [decide_eq_false h3, decide_eq_true (by omega)]; rfl
    rw [h2]
    go_enter Tryd.func43, Tryd.ntmps43
    go_wp2_with fail
    go_ret
    exact ⟨rfl, rfl⟩
theorem any_not (l : List UInt8) : (l.any fun c => !okB c) = !l.all okB := by
  induction l with
  | nil => rfl
  | cons a l ih => rw [List.any_cons, List.all_cons, ih, Bool.not_and]
theorem cf_any (l : List UInt8) (b n c : Nat) (w : World) (hn : n = l.length) (h2 : n ≤ 400) (hc : ∀ j, j < n → w.cell? ⟨b, j, none⟩ = some (.int .u8 (l.getD j 0).toNat)) :
    Calls Tryd.prog 42 #[.slice (some ⟨b, 0, none⟩) n c, .func (.func 43) #[] #[]] w fun e w' => e = .returned (.bool (!l.all okB)) ∧ Below w.heap.size w w' := by
  have eg : ∀ args w, (callFunc 43 args).run Tryd.prog w = .ok (.enter 43 args) w := enters_of Tryd.func43 (by kernel_rfl) rfl
  have hp : PredAt Tryd.prog 43 #[] (fun c : UInt8 => Value.int .u8 c.toNat) (fun c => !okB c) w := fun W x hb => (cl_any x W).mono (by rintro e w' ⟨rfl, rfl⟩; exact ⟨rfl, 0, rfl⟩)
  have hcon := AnyE.slices_ContainsFunc Tryd.cfBytes (fun c : UInt8 => Value.int .u8 c.toNat) (fun c => !okB c) 43 #[] eg b 0 n c l w hp (by omega) (by omega) (fun j hj => by
    have := hc j (by omega)
    rw [Nat.zero_add, this]
    congr 3
    rw [getElem!_pos l j hj, List.getD_eq_getElem?_getD, List.getElem?_eq_getElem hj]; rfl)
  refine Calls.mono hcon ?_
  rintro e w' ⟨rfl, q, rfl⟩
  refine ⟨?_, below_drewN' (Below.refl _ _) q⟩
  congr 2
  rw [hn, List.take_length]
  exact any_not l
set_option maxHeartbeats 4000000 in
theorem plain_any (s : ByteArray) (w : World) : Calls Tryd.prog 31 #[.string s] w fun e w' => e = .returned (.bool (plainL s.data.toList)) ∧ Below w.heap.size w w' := by
  have hsz := size_list s
  by_cases h1 : s.size ≤ 400
  · have HT := Lib.hid (trim1_any s w (by omega))
    have e1 : (decide (s.data.toList.length ≤ 400)) = true := decide_eq_true (by omega)
    by_cases ht : Lib.trimB s.data.toList 32 = s.data.toList
    · have hts : (⟨(Lib.trimB s.data.toList 32).toArray⟩ : ByteArray) = s := by rw [ht]
      rw [hts] at HT
      have hr : plainL s.data.toList = s.data.toList.all okB := by
        obtain ⟨g1, g2⟩ := (trimB_self _ _).1 ht
        unfold plainL
        rw [e1, show (s.data.toList.head? != some 32) = true from by simpa using g1, show (s.data.toList.getLast? != some 32) = true from by simpa using g2]
        rfl
      rw [hr]
      have hq : (s.toList == s.toList) = true := by simp
      have HS := Lib.hid hsz
      clear ht hts hr e1 hsz
      go_enter Tryd.func31, Tryd.ntmps31
      go_wp2_with (first
        | (go_at_call 39; (refine HT.out.mono ?_); rintro e w1 ⟨rfl, hB1⟩; obtain ⟨cap, w2, hrun, hB2, hsz2, hcap, hc⟩ := ConvL.conv_any s w1; have HC := Lib.hid hc; clear hc)
        | (go_at_call 42; (with_reducible refine (cf_any s.data.toList _ s.size cap _ HS.out h1 HC.out).mono ?_); rintro e w3 ⟨rfl, hB3⟩))
      go_ret
      exact ⟨by simp, (hB1.trans (hB2.mono hB1.size)).trans (hB3.mono (by have := hB1.size; have := hB2.size; omega))⟩
    · have hr : plainL s.data.toList = false := by
        unfold plainL
        rw [trimB_self] at ht
        by_cases g1 : s.data.toList.head? = some 32
        · rw [g1]; simp
        · by_cases g2 : s.data.toList.getLast? = some 32
          · rw [g2]; simp
          · exact absurd ⟨g1, g2⟩ ht
      have hq : ((⟨(Lib.trimB s.data.toList 32).toArray⟩ : ByteArray).toList == s.toList) = false := by
        rw [ByteArray.toList_eq, ByteArray.toList_eq]
        exact beq_eq_false_iff_ne.2 (by simpa using ht)
      rw [hr]
      generalize (⟨(Lib.trimB s.data.toList 32).toArray⟩ : ByteArray) = t at *
      clear ht hr e1 hsz
      go_enter Tryd.func31, Tryd.ntmps31
      go_wp2_with (go_at_call 39; (with_reducible refine HT.out.mono ?_); rintro e w1 ⟨rfl, hB1⟩)
      go_ret
      exact ⟨rfl, hB1⟩
  · have hr : plainL s.data.toList = false := by
      unfold plainL
      rw [show (decide (s.data.toList.length ≤ 400)) = false from decide_eq_false (by omega)]
      simp
    have h2 : ¬ (s.size : Int) ≤ 400 := by omega
    rw [hr]
    clear hsz
    go_enter Tryd.func31, Tryd.ntmps31
    go_wp2_with fail
    go_ret
    exact ⟨rfl, Below.refl _ _⟩
theorem has_any (s : ByteArray) (w : World) :
    Calls Tryd.prog 41 #[.string s, .string ⟨#[32]⟩] w fun e w' => e = .returned (.bool (decide (0 ≤ Lib.indexByte s.data.toList 32))) ∧ w = w' :=
  (Tryd.strings_Contains_one s 32 w).mono (by rintro e w' ⟨rfl, rfl⟩; exact ⟨rfl, rfl⟩)
theorem index_has (c : UInt8) : ∀ l : List UInt8, decide (0 ≤ Lib.indexByte l c) = l.contains c := fun l => (Lib.contains_iff_indexByte l c).symm
set_option maxHeartbeats 4000000 in
theorem word_any (s : ByteArray) (w : World) : Calls Tryd.prog 30 #[.string s] w fun e w' => e = .returned (.bool (wordL s.data.toList)) ∧ Below w.heap.size w w' := by
  have hem := emp_list s
  by_cases h0 : s.data.toList = []
  · have hq : s.toList.isEmpty = true := by rw [hem, h0]; rfl
    have hr : wordL s.data.toList = false := by rw [h0]; rfl
    rw [hr]
    go_enter Tryd.func30, Tryd.ntmps30
    go_wp2_with fail
    go_ret
    exact ⟨rfl, Below.refl _ _⟩
  · have hq : s.toList.isEmpty = false := by rw [hem]; cases h : s.data.toList with | nil => exact absurd h h0 | cons _ _ => rfl
    have hr : wordL s.data.toList = (plainL s.data.toList && !(decide (0 ≤ Lib.indexByte s.data.toList 32))) := by
      unfold wordL
      rw [← hem, hq, index_has]; rfl
    have HP := Lib.hid (plain_any s w)
    have HC := Lib.hid (has_any s)
    rw [hr]
    generalize plainL s.data.toList = bp at *
    generalize decide (0 ≤ Lib.indexByte s.data.toList 32) = bc at *
    clear hem h0 hr
    go_enter Tryd.func30, Tryd.ntmps30
    cases bp
    · go_wp2_with (go_at_call 31; (with_reducible refine HP.out.mono ?_); rintro e w1 ⟨rfl, hB1⟩)
      go_ret
      exact ⟨rfl, hB1⟩
    · go_wp2_with (first
        | (go_at_call 31; (with_reducible refine HP.out.mono ?_); rintro e w1 ⟨rfl, hB1⟩)
        | (go_at_call 41; (with_reducible refine (HC.out _).mono ?_); rintro e w2 ⟨rfl, rfl⟩))
      go_ret
      exact ⟨by simp, hB1⟩
end Go.Proofs.YtooplackonnemaaDoor.LineC
