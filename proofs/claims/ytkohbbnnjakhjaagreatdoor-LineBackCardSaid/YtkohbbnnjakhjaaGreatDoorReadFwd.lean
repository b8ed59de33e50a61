/-
  What is told as a request is read as it was, whatever stands behind it: plain Lean.
-/
import Derived.Test.YtkohbbnnjakhjaaGreatDoorReadPre
import Derived.Test.YtkohbbnnjakhjaaGreatDoorAskLines
namespace Go.Proofs.YtkohbbnnjakhjaaGreatDoor.ReadS
open ChunkD BA LineC LineM FieldRows
set_option linter.unusedVariables false
theorem drop_cons {b r : List Int} {z : Int} {p : Nat} (h : b.drop p = z :: r) : p < b.length ∧ b.getD p 0 = z ∧ b.drop (p + 1) = r := by
  have h1 : p < b.length := by
    rcases Nat.lt_or_ge p b.length with h1 | h1
    · exact h1
    · rw [List.drop_of_length_le h1] at h; cases h
  rw [List.drop_eq_getElem_cons h1] at h
  simp only [List.cons.injEq] at h
  exact ⟨h1, by rw [List.getD_eq_getElem?_getD, List.getElem?_eq_getElem h1]; exact h.1, h.2⟩
theorem drop_app {b l r : List Int} {p : Nat} (h : b.drop p = l ++ r) : b.drop (p + l.length) = r := by
  rw [← List.drop_drop, h, List.drop_left]
theorem drop_nil {b : List Int} {p : Nat} (h : b.drop p = []) : b.length ≤ p := by
  have := congrArg List.length h
  simp only [List.length_drop, List.length_nil] at this
  omega
theorem drop_len {b l r : List Int} {p : Nat} (h : b.drop p = l ++ r) : l.length + r.length = b.length - p := by
  have := congrArg List.length h
  simp only [List.length_drop, List.length_append] at this
  omega
variable {b : List Int}
theorem ints_len (l : List UInt8) : (intsOf l).length = l.length := by simp [intsOf]
theorem ints_app (a c : List UInt8) : intsOf (a ++ c) = intsOf a ++ intsOf c := by simp [intsOf]
theorem ints_cons (a : UInt8) (c : List UInt8) : intsOf (a :: c) = (a.toNat : Int) :: intsOf c := rfl
theorem u8_nat (c : UInt8) : u8 (c.toNat : Int) = c := by unfold u8; simp
theorem ut_here {stop : Int} {may : UInt8 → Bool} {p f0 : Nat} : ∀ (T : List UInt8) (i : Nat) (rest : List Int), (∀ c ∈ T, may c = true ∧ (c.toNat : Int) ≠ stop) → i + T.length ≤ p + 400 → b.drop i = intsOf T ++ stop :: rest →
    ut b stop may p (f0 + 1 + T.length) i = (i + T.length, 0) := by
  intro T
  induction T with
  | nil =>
    intro i rest _ _ h
    obtain ⟨h1, h2, _⟩ := drop_cons (r := rest) (z := stop) h
    rw [List.length_nil]
    exact ut_end h1 h2
  | cons c T ih =>
    intro i rest hm hl h
    rw [ints_cons, List.cons_append] at h
    obtain ⟨h1, h2, h3⟩ := drop_cons h
    obtain ⟨m1, m2⟩ := hm c (by simp)
    rw [List.length_cons] at hl ⊢
    rw [show f0 + 1 + (T.length + 1) = f0 + 1 + T.length + 1 by omega, ut_step h1 (by rw [h2]; exact m2) (by rw [h2, u8_nat]; exact m1) (by omega), ih (i + 1) rest (fun x hx => hm x (by simp [hx])) (by omega) h3]
    rw [show i + 1 + T.length = i + (T.length + 1) by omega]
theorem utS_here {stop : Int} {may : UInt8 → Bool} {p : Nat} {T : List UInt8} {rest : List Int} (hm : ∀ c ∈ T, may c = true ∧ (c.toNat : Int) ≠ stop) (hl : T.length ≤ 400) (h : b.drop p = intsOf T ++ stop :: rest) :
    utS b stop may (p, 0) = (⟨T.toArray⟩, (p + T.length, 0)) := by
  have hle := drop_len h
  rw [ints_len, List.length_cons] at hle
  have e := ut_here (p := p) (f0 := b.length - T.length) T p rest hm (by omega) h
  rw [show b.length - T.length + 1 + T.length = b.length + 1 by omega] at e
  unfold utS
  rw [if_pos rfl]
  simp only
  rw [e, if_pos rfl]
  unfold txt
  rw [show p + T.length - p = (intsOf T).length by rw [ints_len]; omega, h, List.take_left, strOf_ints]
theorem mt_here {S rest : List Int} {p : Nat} (h : b.drop p = S ++ rest) : mt b S p = (p + S.length, 0) := by
  induction S generalizing p with
  | nil => rfl
  | cons c S ih =>
    obtain ⟨h1, h2, h3⟩ := drop_cons (r := S ++ rest) (z := c) h
    rw [mt_step h1 h2, ih h3, List.length_cons]
    rw [show p + 1 + S.length = p + (S.length + 1) by omega]
theorem mtS_here {S rest : List Int} {p : Nat} (h : b.drop p = S ++ rest) : mtS b S (p, 0) = (p + S.length, 0) := by unfold mtS; rw [if_pos rfl]; exact mt_here h
theorem needS_yes (σ : St) : needS true σ = σ := by unfold needS; rw [if_neg (by simp)]
theorem tok_stop {c : UInt8} (h : tokB c = true) : (c.toNat : Int) ≠ 32 := fun e => by
  have : c = 32 := UInt8.toNat_inj.1 (by show c.toNat = 32; omega)
  subst this; revert h; decide
theorem vis_stop {c : UInt8} (h : visB c = true) : (c.toNat : Int) ≠ 32 := fun e => by
  have : c = 32 := UInt8.toNat_inj.1 (by show c.toNat = 32; omega)
  subst this; revert h; decide
theorem ok_stop {c : UInt8} (h : okB c = true) : (c.toNat : Int) ≠ 13 := fun e => by
  have : c = 13 := UInt8.toNat_inj.1 (by show c.toNat = 13; omega)
  subst this; revert h; decide
theorem small_stop {c : UInt8} (h : smallB c = true) : (c.toNat : Int) ≠ 58 := fun e => by
  have : c = 58 := UInt8.toNat_inj.1 (by show c.toNat = 58; omega)
  subst this; revert h; decide
theorem plain_all {l : List UInt8} (h : plainL l = true) : l.length ≤ 400 ∧ l.head? ≠ some 32 ∧ ∀ c ∈ l, okB c = true := by
  unfold plainL at h
  simp only [Bool.and_eq_true, decide_eq_true_eq, bne_iff_ne] at h
  obtain ⟨⟨⟨h1, h2⟩, h3⟩, h4⟩ := h
  exact ⟨h1, h2, fun c hc => by have := List.all_eq_true.1 h4 c hc; exact this⟩
theorem word_all {l : List UInt8} (h : wordL l = true) : l.length ≤ 400 ∧ l ≠ [] ∧ ∀ c ∈ l, visB c = true := by
  unfold wordL at h
  simp only [Bool.and_eq_true, Bool.not_eq_true'] at h
  obtain ⟨⟨h1, h2⟩, h3⟩ := h
  obtain ⟨a, _, c⟩ := plain_all h2
  refine ⟨a, by intro e; rw [e] at h1; simp at h1, fun x hx => ?_⟩
  have hx1 := c x hx
  have hne : x ≠ 32 := by
    intro e; subst e
    have : l.contains 32 = true := List.contains_iff_mem.2 hx
    rw [this] at h3; cases h3
  have hn : x.toNat ≠ 32 := fun e => hne (UInt8.toNat_inj.1 (by show x.toNat = 32; omega))
  unfold okB at hx1
  unfold visB
  simp only [Bool.and_eq_true, decide_eq_true_eq] at hx1 ⊢
  omega
theorem name_all {l : List UInt8} (h : nameL l = true) : l.length ≤ 400 ∧ l ≠ [] ∧ ∀ c ∈ l, smallB c = true := by
  unfold nameL at h
  rw [Bool.and_eq_true] at h
  obtain ⟨a, c⟩ := tok_len h.1
  exact ⟨a, c, List.all_eq_true.1 h.2⟩
theorem tok_all {l : List UInt8} (h : tokL l = true) : l.length ≤ 400 ∧ l ≠ [] ∧ ∀ c ∈ l, tokB c = true := by
  obtain ⟨a, c⟩ := tok_len h
  unfold tokL at h
  rw [Bool.and_eq_true] at h
  exact ⟨a, c, List.all_eq_true.1 h.2⟩
theorem emp_arr {l : List UInt8} (h : l ≠ []) : (!(⟨l.toArray⟩ : ByteArray).toList.isEmpty) = true := by
  rw [emp_list]
  cases l with
  | nil => exact absurd rfl h
  | cons a l => rfl
theorem valS_here {p : Nat} {V : List UInt8} {rest : List Int} (hV : plainL V = true) (h : b.drop p = [58, 32] ++ (intsOf V ++ ([13, 10] ++ rest))) : valS b (p, 0) = (⟨V.toArray⟩, (p + V.length + 4, 0)) := by
  obtain ⟨v1, v2, v3⟩ := plain_all hV
  have e1 := mtS_here h
  have h2 := drop_app h
  simp only [List.length_cons, List.length_nil] at e1 h2
  have e2 : blankS b (p + (0 + 1 + 1), 0) = (p + (0 + 1 + 1), 0) := by
    unfold blankS
    rw [if_neg]
    rintro ⟨_, _, h3⟩
    simp only at h3
    cases V with
    | nil =>
      obtain ⟨_, q, _⟩ := drop_cons (z := 13) (r := 10 :: rest) h2
      rw [q] at h3; cases h3
    | cons c V =>
      obtain ⟨_, q, _⟩ := drop_cons (z := (c.toNat : Int)) (r := intsOf V ++ ([13, 10] ++ rest)) h2
      rw [q] at h3
      refine v2 ?_
      have : c = 32 := UInt8.toNat_inj.1 (by show c.toNat = 32; omega)
      rw [this]; rfl
  have e3 := utS_here (b := b) (stop := 13) (may := okB) (p := p + (0 + 1 + 1)) (T := V) (rest := 10 :: rest) (fun c hc => ⟨v3 c hc, ok_stop (v3 c hc)⟩) v1 h2
  have h4 := drop_app h2
  rw [ints_len] at h4
  have e5 := mtS_here h4
  unfold valS
  simp only [e1, e2, e3]
  rw [show plainL (⟨V.toArray⟩ : ByteArray).data.toList = true from hV, needS_yes]
  simp only [List.length_cons, List.length_nil] at e5
  rw [e5]
  congr 2
  omega
theorem dgs_dec {least st : Nat} (hle : ∀ m : Nat, True → True) : ∀ m f rest, m ≤ 8000 → (least = 0 ∨ 1 ≤ m) → b.drop st = intsOf (Lib.decDigits m) ++ rest →
    dgs b least st (f + (Lib.decDigits m).length) st 0 = dgs b least st f (st + (Lib.decDigits m).length) m := by
  intro m
  induction m using Nat.strongRecOn with
  | ind m ih =>
    intro f rest hm hz h
    by_cases hs : m < 10
    · rw [dec_small hs] at h ⊢
      obtain ⟨h1, h2, _⟩ := drop_cons (z := ((digB m).toNat : Int)) (r := rest) h
      have hd : ((digB m).toNat : Int) = 48 + m := by unfold digB; rw [UInt8.toNat_ofNat']; omega
      rw [hd] at h2
      rw [List.length_singleton, dgs_step h1 (by omega) (by rw [h2]; omega) (by rw [h2]; omega), h2]
      rw [show 10 * 0 + (48 + (m : Int) - 48).toNat = m by omega]
    · rw [dec_big hs] at h ⊢
      rw [ints_app, List.append_assoc] at h
      have h0 := ih (m / 10) (by omega) (f + 1) _ (by omega) (by omega) h
      rw [List.length_append, List.length_singleton]
      rw [show f + ((Lib.decDigits (m / 10)).length + 1) = f + 1 + (Lib.decDigits (m / 10)).length by omega, h0]
      have hpos : 1 ≤ (Lib.decDigits (m / 10)).length := by
        rcases Nat.lt_or_ge (m / 10) 10 with hq | hq
        · rw [dec_small hq]; exact Nat.le_refl _
        · rw [dec_big (by omega), List.length_append, List.length_singleton]; omega
      have h5 := drop_app h
      rw [ints_len] at h5
      obtain ⟨h1, h2, _⟩ := drop_cons (z := ((digB (m % 10)).toNat : Int)) (r := rest) h5
      have hd : ((digB (m % 10)).toNat : Int) = 48 + (m % 10 : Nat) := by unfold digB; rw [UInt8.toNat_ofNat']; omega
      rw [hd] at h2
      rw [dgs_step h1 (by rw [h2]; omega) (by rw [h2]; omega) (by rw [h2]; omega), h2]
      rw [show 10 * (m / 10) + (48 + ((m % 10 : Nat) : Int) - 48).toNat = m by omega, Nat.add_assoc]
theorem lenS_here {least n p : Nat} {rest : List Int} (hn : n ≤ 8000) (hl : least ≤ n) (h : b.drop p = [58, 32] ++ (intsOf (Lib.decDigits n) ++ ([13, 10] ++ rest))) (hz : least = 0 ∨ 1 ≤ n) :
    lenS b least (p, 0) = (n, (p + 2 + (Lib.decDigits n).length + 2, 0)) := by
  have e1 := mtS_here h
  have h2 := drop_app h
  simp only [List.length_cons, List.length_nil] at e1 h2
  have hle := drop_len h2
  rw [ints_len, List.length_append, List.length_cons, List.length_cons] at hle
  have e2 := dgs_dec (least := least) (fun _ _ => trivial) n (b.length + 1 - (Lib.decDigits n).length) _ hn hz h2
  rw [show b.length + 1 - (Lib.decDigits n).length + (Lib.decDigits n).length = b.length + 1 by omega] at e2
  have h3 := drop_app h2
  rw [ints_len] at h3
  obtain ⟨q1, q2, _⟩ := drop_cons (z := 13) (r := 10 :: rest) h3
  have hpos : 1 ≤ (Lib.decDigits n).length := by
    rcases Nat.lt_or_ge n 10 with hq | hq
    · rw [dec_small hq]; exact Nat.le_refl _
    · rw [dec_big (by omega), List.length_append, List.length_singleton]; omega
  obtain ⟨g, hg⟩ : ∃ g, b.length + 1 - (Lib.decDigits n).length = g + 1 := ⟨b.length - (Lib.decDigits n).length, by omega⟩
  rw [hg, dgs_end q1 ⟨q2, by omega⟩ (by omega)] at e2
  unfold lenS
  simp only [e1]
  rw [if_pos trivial, e2]
  simp only
  rw [mtS_here h3]
  simp only [List.length_cons, List.length_nil]
theorem own_not {s : ByteArray} (h : ownB s = false) : (s.toList == [108, 101, 110, 103, 116, 104]) = false ∧ (s.toList == [99, 111, 100, 105, 110, 103]) = false := by
  unfold ownB at h
  simp only [Bool.or_eq_false_iff] at h
  exact ⟨h.1.2, h.2⟩
theorem ba_of (s : ByteArray) : (⟨s.data.toList.toArray⟩ : ByteArray) = s := by cases s; rfl
theorem nmS_here {p : Nat} {s : ByteArray} {rest : List Int} (hs : nameL s.data.toList = true) (h : b.drop p = intsOf s.data.toList ++ 58 :: rest) : nmS b (p, 0) = (s, (p + s.data.toList.length, 0)) := by
  obtain ⟨a, c, d⟩ := name_all hs
  have e := utS_here (b := b) (stop := 58) (may := smallB) (p := p) (T := s.data.toList) (rest := rest) (fun x hx => ⟨d x hx, small_stop (d x hx)⟩) a h
  unfold nmS
  simp only [e]
  rw [emp_arr c, needS_yes, ba_of]
theorem hd_fields {least : Nat} {coded : Bool} : ∀ (l acc : List Fld) (f p : Nat) (rest : List Int), (∀ x ∈ l, nameL x.1.data.toList = true ∧ plainL x.2.data.toList = true ∧ ownB x.1 = false) → acc.length + l.length ≤ 40 → b.drop p = intsOf (linesL l) ++ rest →
    hdS b least coded (f + l.length) acc (p, 0) = hdS b least coded f (acc ++ l) (p + (linesL l).length, 0) := by
  intro l
  induction l with
  | nil => intro acc f p rest _ _ _; simp [linesL]
  | cons x l ih =>
    intro acc f p rest hx hl h
    obtain ⟨n1, n2, n3⟩ := hx x (by simp)
    obtain ⟨o1, o2⟩ := own_not n3
    have hcat : linesL (x :: l) = lineF x ++ linesL l := rfl
    rw [hcat] at h ⊢
    rw [ints_app, List.append_assoc] at h
    have h' : b.drop p = intsOf x.1.data.toList ++ 58 :: (32 :: (intsOf x.2.data.toList ++ ([13, 10] ++ (intsOf (linesL l) ++ rest)))) := by
      rw [h]; unfold lineF; simp [intsOf]
    have e1 := nmS_here n1 h'
    have h2 := drop_app h'
    rw [ints_len] at h2
    have e2 := valS_here (p := p + x.1.data.toList.length) (V := x.2.data.toList) (rest := intsOf (linesL l) ++ rest) n2 h2
    have h13 : ¬ ((p, 0) : St).1 < b.length ∨ ¬ (b.getD ((p, 0) : St).1 0 = 13) := by
      right
      obtain ⟨_, c2, c3⟩ := name_all n1
      generalize x.1.data.toList = L at *
      cases L with
      | nil => exact absurd rfl c2
      | cons c L =>
        obtain ⟨_, q, _⟩ := drop_cons (z := (c.toNat : Int)) (r := intsOf L ++ 58 :: (32 :: (intsOf x.2.data.toList ++ ([13, 10] ++ (intsOf (linesL l) ++ rest))))) h'
        intro e
        simp only at e
        rw [q] at e
        have hc := c3 c (by simp)
        have : c = 13 := UInt8.toNat_inj.1 (by show c.toNat = 13; omega)
        subst this; revert hc; decide
    rw [List.length_cons] at hl ⊢
    rw [show f + (l.length + 1) = f + l.length + 1 by omega, hdS_go rfl (by rintro ⟨a, c⟩; rcases h13 with h | h; exact h a; exact h c)]
    simp only [e1]
    rw [if_neg (by simp), o1, if_neg (by simp), o2, if_neg (by simp), n3, if_neg (by simp), if_neg (by omega), e2, ba_of]
    have h5 := drop_app h
    rw [ints_len] at h5
    have elen : p + x.1.data.toList.length + x.2.data.toList.length + 4 = p + (lineF x).length := by unfold lineF; simp only [List.length_append, List.length_cons, List.length_nil]; omega
    rw [elen]
    rw [ih (acc ++ [(x.1, x.2)]) f (p + (lineF x).length) rest (fun y hy => hx y (by simp [hy])) (by rw [List.length_append, List.length_singleton]; omega) h5, List.append_assoc, List.length_append, Nat.add_assoc]
    rfl
theorem askE_parts {r : Rq} (h : askE r = 0) : r.fields.length ≤ 40 ∧ r.body.length ≤ 8000 ∧ tokL r.method.data.toList = true ∧ wordL r.path.data.toList = true ∧ r.host.toList.isEmpty = false ∧ plainL r.host.data.toList = true ∧ fieldsE r.fields = 0 := by
  unfold askE at h
  split at h
  · cases h
  · rename_i h1
    unfold fullB at h1
    simp only [Bool.or_eq_true, decide_eq_true_eq, not_or] at h1
    split at h
    · cases h
    · rename_i h2
      simp only [Bool.or_eq_true, Bool.not_eq_true', not_or, Bool.not_eq_true, Bool.not_eq_false] at h2
      exact ⟨by omega, by omega, h2.1.1.1, h2.1.1.2, h2.1.2, h2.2, h⟩
theorem bodyS_here {p : Nat} {B rest : List Int} (h : b.drop p = B ++ rest) (hp : p ≤ b.length) : bodyS b B.length (p, 0) = (B, (p + B.length, 0)) := by
  have := drop_len h
  unfold bodyS
  rw [if_neg (by simp), if_neg (by simp only; omega), h, List.take_left]
/-- What is told as a request is read as it was, whatever stands behind it. -/
theorem askC_told {r : Rq} {rest : List Int} (h : askE r = 0) : askC (askBytes r ++ rest) = (r, ((askBytes r).length, 0)) := by
  obtain ⟨a1, a2, a3, a4, a5, a6, a7⟩ := askE_parts h
  obtain ⟨m1, m2, m3⟩ := tok_all a3
  obtain ⟨p1, p2, p3⟩ := word_all a4
  have hf := fields_small a7
  have hb : (askBytes r ++ rest).drop 0 = intsOf r.method.data.toList ++ 32 :: (intsOf r.path.data.toList ++ 32 :: ([69, 68, 71, 69, 47, 49, 13, 10, 104, 111, 115, 116] ++ ([58, 32] ++ (intsOf r.host.data.toList ++ ([13, 10] ++ (intsOf (linesL r.fields) ++ (intsOf (lenL r.body.length ++ [13, 10]) ++ (r.body ++ rest)))))))) := by
    unfold askBytes askHead
    simp [intsOf, List.append_assoc]
  have hlen : (askBytes r).length = r.method.data.toList.length + 1 + r.path.data.toList.length + 13 + r.host.data.toList.length + 4 + (linesL r.fields).length + (lenL r.body.length).length + 2 + r.body.length := by
    unfold askBytes askHead
    simp only [List.length_append, ints_len, List.length_cons, List.length_nil]
    omega
  generalize hB : askBytes r ++ rest = b at *
  have e1 := utS_here (stop := 32) (may := tokB) (p := 0) (T := r.method.data.toList) (fun c hc => ⟨m3 c hc, tok_stop (m3 c hc)⟩) m1 hb
  have h1 := drop_app hb
  rw [ints_len] at h1
  have e2 := mtS_here (S := [32]) (rest := intsOf r.path.data.toList ++ 32 :: ([69, 68, 71, 69, 47, 49, 13, 10, 104, 111, 115, 116] ++ ([58, 32] ++ (intsOf r.host.data.toList ++ ([13, 10] ++ (intsOf (linesL r.fields) ++ (intsOf (lenL r.body.length ++ [13, 10]) ++ (r.body ++ rest)))))))) h1
  have h2 := drop_app (l := [32]) (r := intsOf r.path.data.toList ++ 32 :: ([69, 68, 71, 69, 47, 49, 13, 10, 104, 111, 115, 116] ++ ([58, 32] ++ (intsOf r.host.data.toList ++ ([13, 10] ++ (intsOf (linesL r.fields) ++ (intsOf (lenL r.body.length ++ [13, 10]) ++ (r.body ++ rest)))))))) h1
  have e3 := utS_here (stop := 32) (may := visB) (T := r.path.data.toList) (fun c hc => ⟨p3 c hc, vis_stop (p3 c hc)⟩) p1 h2
  have h3 := drop_app h2
  rw [ints_len] at h3
  have e4 := mtS_here (S := [32, 69, 68, 71, 69, 47, 49, 13, 10, 104, 111, 115, 116]) (rest := [58, 32] ++ (intsOf r.host.data.toList ++ ([13, 10] ++ (intsOf (linesL r.fields) ++ (intsOf (lenL r.body.length ++ [13, 10]) ++ (r.body ++ rest)))))) h3
  have h4 := drop_app (l := [32, 69, 68, 71, 69, 47, 49, 13, 10, 104, 111, 115, 116]) (r := [58, 32] ++ (intsOf r.host.data.toList ++ ([13, 10] ++ (intsOf (linesL r.fields) ++ (intsOf (lenL r.body.length ++ [13, 10]) ++ (r.body ++ rest)))))) h3
  have e5 := valS_here a6 h4
  have h5 : b.drop (0 + r.method.data.toList.length + ([32] : List Int).length + r.path.data.toList.length + ([32, 69, 68, 71, 69, 47, 49, 13, 10, 104, 111, 115, 116] : List Int).length + r.host.data.toList.length + 4) = intsOf (linesL r.fields) ++ (intsOf (lenL r.body.length ++ [13, 10]) ++ (r.body ++ rest)) := by
    have q1 := drop_app h4
    have q2 := drop_app q1
    rw [ints_len] at q2
    have q3 := drop_app q2
    rw [← q3]
    congr 1
    simp only [List.length_cons, List.length_nil]
    omega
  have e6 := hd_fields (least := 1) (coded := false) r.fields [] (42 - r.fields.length) _ _ hf (by rw [List.length_nil]; omega) h5
  rw [show 42 - r.fields.length + r.fields.length = 42 by omega, List.nil_append] at e6
  obtain ⟨g, hg⟩ : ∃ g, 42 - r.fields.length = g + 1 := ⟨41 - r.fields.length, by omega⟩
  have h6 := drop_app h5
  rw [ints_len] at h6
  have hhost : (!r.host.toList.isEmpty) = true := by rw [a5]; rfl
  have fin : (hdS b 1 false (g + 1) r.fields (0 + r.method.data.toList.length + ([32] : List Int).length + r.path.data.toList.length + ([32, 69, 68, 71, 69, 47, 49, 13, 10, 104, 111, 115, 116] : List Int).length + r.host.data.toList.length + 4 + (linesL r.fields).length, 0)) =
      ⟨r.fields, if r.body.length = 0 then -1 else r.body.length, false, ((askBytes r).length - r.body.length, 0)⟩ := by
    generalize hP : 0 + r.method.data.toList.length + ([32] : List Int).length + r.path.data.toList.length + ([32, 69, 68, 71, 69, 47, 49, 13, 10, 104, 111, 115, 116] : List Int).length + r.host.data.toList.length + 4 + (linesL r.fields).length = P at *
    by_cases h0 : r.body.length = 0
    · have hl0 : lenL r.body.length = [] := by unfold lenL; rw [if_pos h0]
      rw [hl0] at h6 hlen
      obtain ⟨q1, q2, _⟩ := drop_cons (z := 13) (r := 10 :: (r.body ++ rest)) h6
      rw [hdS_end rfl ⟨q1, q2⟩, if_pos h0, mtS_here (S := [13, 10]) (rest := r.body ++ rest) h6]
      congr 2
      rw [hlen, ← hP]
      simp only [List.length_cons, List.length_nil]
      omega
    · have hl0 : lenL r.body.length = [108, 101, 110, 103, 116, 104, 58, 32] ++ Lib.decDigits r.body.length ++ [13, 10] := by unfold lenL; rw [if_neg h0]
      rw [hl0] at h6 hlen
      have h7 : b.drop P = intsOf (⟨#[108, 101, 110, 103, 116, 104]⟩ : ByteArray).data.toList ++ 58 :: (32 :: (intsOf (Lib.decDigits r.body.length) ++ ([13, 10] ++ ([13, 10] ++ (r.body ++ rest))))) := by
        rw [h6]; simp [intsOf]
      have e7 := nmS_here (by decide) h7
      have h8 := drop_app h7
      rw [ints_len] at h8
      have e8 := lenS_here (least := 1) (n := r.body.length) a2 (by omega) (p := P + (⟨#[108, 101, 110, 103, 116, 104]⟩ : ByteArray).data.toList.length) (rest := [13, 10] ++ (r.body ++ rest)) h8 (.inr (by omega))
      have h9 : b.drop (P + (⟨#[108, 101, 110, 103, 116, 104]⟩ : ByteArray).data.toList.length + 2 + (Lib.decDigits r.body.length).length + 2) = [13, 10] ++ (r.body ++ rest) := by
        have q1 := drop_app (l := [58, 32]) (r := intsOf (Lib.decDigits r.body.length) ++ ([13, 10] ++ ([13, 10] ++ (r.body ++ rest)))) h8
        have q2 := drop_app q1
        rw [ints_len] at q2
        have q3 := drop_app q2
        rw [← q3]
        congr 1
      have h13 : ¬ (((P, 0) : St).1 < b.length ∧ b.getD ((P, 0) : St).1 0 = 13) := by
        obtain ⟨_, q, _⟩ := drop_cons (z := 108) (r := intsOf [101, 110, 103, 116, 104] ++ 58 :: (32 :: (intsOf (Lib.decDigits r.body.length) ++ ([13, 10] ++ ([13, 10] ++ (r.body ++ rest)))))) h7
        rintro ⟨_, e⟩
        simp only at e
        rw [q] at e; cases e
      rw [hdS_go rfl h13]
      simp only [e7]
      rw [if_neg (by simp), if_pos (by rw [ByteArray.toList_eq]; rfl), e8]
      simp only
      rw [mtS_here h9, if_neg h0]
      congr 2
      rw [hlen, ← hP]
      simp only [List.length_append, List.length_cons, List.length_nil]
      omega
  unfold askC
  simp only [e1]
  rw [ba_of, emp_list, show (!r.method.data.toList.isEmpty) = true by cases hq : r.method.data.toList with | nil => exact absurd hq m2 | cons _ _ => rfl, needS_yes, e2]
  simp only [e3]
  rw [ba_of, emp_list, show (!r.path.data.toList.isEmpty) = true by cases hq : r.path.data.toList with | nil => exact absurd hq p2 | cons _ _ => rfl, needS_yes, e4]
  simp only [e5]
  rw [ba_of, hhost, needS_yes, e6, hg, fin]
  simp only
  by_cases h0 : r.body.length = 0
  · rw [if_pos h0, if_neg (by omega), h0]
    have hb0 : r.body = [] := List.eq_nil_of_length_eq_zero h0
    obtain ⟨x1, x2, x3, x4, x5⟩ := r
    simp only at hb0 ⊢
    subst hb0
    simp
  · have h10 : b.drop ((askBytes r).length - r.body.length) = r.body ++ rest := by
      rw [← hB]
      unfold askBytes
      rw [List.length_append, Nat.add_sub_cancel, List.append_assoc (intsOf _) r.body rest, List.drop_left]
    have hle : (askBytes r).length ≤ b.length := by rw [← hB, List.length_append]; omega
    have hbl : r.body.length ≤ (askBytes r).length := by unfold askBytes; rw [List.length_append]; omega
    rw [if_neg h0, if_pos (by omega), Int.toNat_natCast, bodyS_here h10 (by omega)]
    simp only
    rw [Nat.sub_add_cancel hbl]
end Go.Proofs.YtkohbbnnjakhjaaGreatDoor.ReadS
