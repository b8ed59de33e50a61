/-
  What is right is small, and has no names that are not its own: in plain Lean.
  Conditions: none.
-/
import Derived.Test.YtooplackonnemaaDoorFieldsBackP
namespace Go.Proofs.YtooplackonnemaaDoor.FieldsC
open Go RowsK FieldRows LineC LineM
set_option linter.unusedVariables false
set_option linter.unusedSimpArgs false

theorem firstE_zero {α : Type} {g : α → Int} : ∀ {l : List α}, firstE g l = 0 → ∀ a ∈ l, g a = 0
  | [], _, a, h => by cases h
  | x :: l, h, a, ha => by
    unfold firstE at h
    split at h
    · rename_i hx; exact absurd h hx
    · rename_i hx
      rcases List.mem_cons.1 ha with rfl | ha
      · simpa using hx
      · exact firstE_zero h a ha
theorem firstE_all {α : Type} {g : α → Int} : ∀ {l : List α}, (∀ a ∈ l, g a = 0) → firstE g l = 0
  | [], _ => rfl
  | x :: l, h => by
    unfold firstE
    rw [if_neg (by simpa using h x List.mem_cons_self)]
    exact firstE_all fun a ha => h a (List.mem_cons_of_mem _ ha)
/-- What is right of a field. -/
theorem field_ok {f : Fld} (h : fieldE1 f = 0) : nameL f.1.data.toList = true ∧ f.2.size ≤ 400 ∧ ownB f.1 = false := by
  unfold fieldE1 at h
  split at h
  · cases h
  · rename_i h1
    simp only [Bool.or_eq_true, Bool.not_eq_true', not_or, Bool.not_eq_false] at h1
    split at h
    · cases h
    · rename_i h2
      refine ⟨h1.1, ?_, by simpa using h2⟩
      have h3 := h1.2
      unfold plainL at h3
      simp only [Bool.and_eq_true, decide_eq_true_eq] at h3
      rw [size_list]; exact h3.1.1.1
theorem name_colon {s : ByteArray} (h : nameL s.data.toList = true) : colonB s = false := by
  unfold nameL at h
  simp only [Bool.and_eq_true, List.all_eq_true] at h
  rcases hc : colonB s with _ | _
  · rfl
  · unfold colonB Lib.hasPrefix at hc
    obtain ⟨t, ht⟩ := List.isPrefixOf_iff_prefix.1 hc
    have := h.2 58 (by rw [← ht]; simp)
    revert this; decide
theorem own_parts {s : ByteArray} (h : ownB s = false) : isHost s = false ∧ isLength s = false := by
  unfold ownB at h
  simp only [Bool.or_eq_false_iff] at h
  exact ⟨h.1.1, h.1.2⟩
theorem good_of {f : Fld} (h : fieldE1 f = 0) (hb : betweenB f.1 = false) : goodF f = true := by
  obtain ⟨-, -, h3⟩ := field_ok h
  obtain ⟨h1, h2⟩ := own_parts h3
  unfold goodF
  rw [hb, h1, h2]; rfl
theorem crumbs_colon {l : List Fld} (h : fieldsE l = 0) : ∀ f ∈ l.flatMap crumbs, colonB f.1 = false := by
  intro f hf
  obtain ⟨g, hg, hf⟩ := List.mem_flatMap.1 hf
  have hok := field_ok (firstE_zero h g hg)
  unfold crumbs at hf
  split at hf
  · obtain ⟨s, -, rfl⟩ := List.mem_map.1 hf
    exact cookieB_is.2.2.2.2
  · rw [List.mem_singleton.1 hf]; exact name_colon hok.1
theorem flatC_len : ∀ (r : List (List UInt8)), (flatC r).length = (r.map fun p => p.length + 2).sum
  | [] => rfl
  | p :: r => by simp [flatC, flatC_len r]; omega
theorem crumbs_W3 (f : Fld) : W3 (crumbs f) ≤ 3 * f.2.size + 3 := by
  unfold crumbs
  split
  · obtain ⟨p, r, h1, h2⟩ := parts_flat f.2
    have h3 := congrArg List.length h2
    rw [List.length_append, flatC_len, ← size_list f.2, ← size_list p, List.map_map] at h3
    rw [h1]
    have h4 : W3 ((p :: r).map fun s => (cookieB, s)) = p.size + 3 + (r.map fun p => p.size + 3).sum := by
      simp [W3, List.map_map]; rfl
    have h5 : ((r.map ((fun p => p.length + 2) ∘ fun (x : ByteArray) => x.data.toList)).sum) = (r.map fun p => p.size + 2).sum := by
      congr 1
    have h6 : ∀ l : List ByteArray, (l.map fun p => p.size + 3).sum ≤ 2 * (l.map fun p => p.size + 2).sum := fun l => by
      induction l with
      | nil => simp
      | cons x l ih => simp only [List.map_cons, List.sum_cons]; omega
    have h7 := h6 r
    rw [h4]
    rw [h5] at h3
    omega
  · simp [W3]; omega
theorem crumbs_W3all : ∀ (l : List Fld), (∀ f ∈ l, f.2.size ≤ 400) → W3 (l.flatMap crumbs) ≤ 1203 * l.length
  | [], _ => by simp [W3]
  | f :: l, h => by
    have h1 := crumbs_W3 f
    have h2 := h f List.mem_cons_self
    have h3 := crumbs_W3all l (fun x hx => h x (List.mem_cons_of_mem _ hx))
    rw [List.flatMap_cons, W3_app, List.length_cons]
    omega
theorem weight_all : ∀ (l : List Fld), (∀ f ∈ l, f.2.size ≤ 400) → weight l ≤ 401 * l.length
  | [], _ => by simp [weight]
  | f :: l, h => by
    have h2 := h f List.mem_cons_self
    have h3 := weight_all l (fun x hx => h x (List.mem_cons_of_mem _ hx))
    simp only [weight, List.map_cons, List.sum_cons, List.length_cons] at h3 ⊢
    omega
theorem full_no {n m : Nat} (h : fullB n m = false) : n ≤ 40 ∧ m ≤ 8000 := by
  unfold fullB at h
  simp only [Bool.or_eq_false_iff, decide_eq_false_iff_not] at h
  omega
theorem ask_right {r : Rq} (h : askE r = 0) : r.fields.length ≤ 40 ∧ r.body.length ≤ 8000 ∧ fieldsE r.fields = 0 := by
  unfold askE at h
  split at h
  · cases h
  · rename_i h1
    obtain ⟨h2, h3⟩ := full_no (by simpa using h1)
    split at h
    · cases h
    · exact ⟨h2, h3, h⟩
theorem tell_right {r : Rp} (h : tellE r 0 = 0) : r.fields.length ≤ 40 ∧ r.body.length ≤ 8000 ∧ (100 ≤ r.code ∧ r.code ≤ 599) ∧ fieldsE r.fields = 0 := by
  unfold tellE at h
  split at h
  · cases h
  · rename_i h1
    obtain ⟨h2, h3⟩ := full_no (by simpa using h1)
    split at h
    · cases h
    · rename_i h4
      simp only [Bool.or_eq_true, decide_eq_true_eq, not_or] at h4
      exact ⟨h2, h3, ⟨by omega, by omega⟩, h⟩
theorem sizes_ok {l : List Fld} (h : fieldsE l = 0) : ∀ f ∈ l, f.2.size ≤ 400 := fun f hf => (field_ok (firstE_zero h f hf)).2.1
theorem clean_sub {l : List Fld} {f : Fld} (h : f ∈ cleanL l) : f ∈ l ∧ betweenB f.1 = false ∧ isLength f.1 = false := by
  unfold cleanL at h
  obtain ⟨h1, h2⟩ := List.mem_filter.1 h
  unfold goneB at h2
  simp only [Bool.not_eq_true', Bool.or_eq_false_iff] at h2
  exact ⟨h1, h2.1.1, h2.1.2⟩
theorem clean_right {l : List Fld} (h : fieldsE l = 0) : fieldsE (cleanL l) = 0 := firstE_all fun f hf => firstE_zero h f (clean_sub hf).1
theorem named_clean (l : List Fld) : named (cleanL l) = [] := by
  unfold named
  rw [List.flatMap_eq_nil_iff]
  intro f hf
  have hb := (clean_sub hf).2.1
  unfold betweenB at hb
  simp only [Bool.or_eq_false_iff] at hb
  unfold namesOf
  rw [hb.1.1.1, if_neg (by simp)]
def cookR : Rq := ⟨⟨#[71, 69, 84]⟩, ⟨#[47]⟩, ⟨#[104]⟩, [(cookieB, ⟨#[97, 59, 32, 98]⟩)], []⟩
theorem cook_parts : partsC ⟨#[97, 59, 32, 98]⟩ = [⟨#[97]⟩, ⟨#[98]⟩] := by decide
theorem cook_list : listF cookR = [(mN, ⟨#[71, 69, 84]⟩), (pN, ⟨#[47]⟩), (hN, ⟨#[104]⟩), (cookieB, ⟨#[97]⟩), (cookieB, ⟨#[98]⟩)] := by
  unfold listF headF cookR
  simp only [List.flatMap_cons, List.flatMap_nil, List.append_nil]
  unfold crumbs
  rw [cookieB_is.1, if_pos rfl, cook_parts]
  rfl
theorem cook_right : askE cookR = 0 := by
  unfold askE cookR fieldsE firstE fieldE1 ownB
  simp only [ByteArray.toList_eq, firstE]
  decide
/-- What is clean is clean. -/
theorem clean_clean (l : List Fld) : cleanL (cleanL l) = cleanL l := by
  unfold cleanL
  rw [List.filter_eq_self]
  intro f hf
  have h := clean_sub (l := l) hf
  have hn := named_clean l
  unfold cleanL at hn
  rw [hn]
  unfold goneB
  rw [h.2.1, h.2.2]
  rfl
/-- What Tell says behind the code. -/
def tellTail (r : Rp) : List Fld := cleanL r.fields ++ (if bareB r.code then [] else [(lengthN, itoaB (r.body.length : Int))])
theorem tell_tail (r : Rp) : tellF r = (codeN, itoaB r.code) :: tellTail r := rfl
theorem lengthN_is : isLength lengthN = true ∧ colonB lengthN = false := by
  unfold isLength colonB
  rw [ByteArray.toList_eq]
  decide
theorem tail_filter (r : Rp) : (tellTail r).filter (fun f => !isLength f.1) = cleanL r.fields := by
  unfold tellTail
  rw [List.filter_append]
  have h1 : (cleanL r.fields).filter (fun f => !isLength f.1) = cleanL r.fields := by
    rw [List.filter_eq_self]
    intro f hf
    rw [(clean_sub hf).2.2]; rfl
  rw [h1]
  split
  · simp
  · rw [List.filter_cons, lengthN_is.1]; simp
theorem tail_colon {r : Rp} (h : fieldsE r.fields = 0) : ((tellTail r).any fun f => colonB f.1) = false := by
  rw [List.any_eq_false]
  intro f hf
  unfold tellTail at hf
  rcases List.mem_append.1 hf with hf | hf
  · rw [name_colon (field_ok (firstE_zero h f (clean_sub hf).1)).1]; simp
  · split at hf
    · cases hf
    · rw [List.mem_singleton.1 hf, lengthN_is.2]; simp
theorem tail_len (r : Rp) (h : r.fields.length ≤ 40) : (tellTail r).length ≤ 41 := by
  unfold tellTail
  have h1 : (cleanL r.fields).length ≤ r.fields.length := List.length_filter_le _ _
  rw [List.length_append]
  split <;> simp <;> omega
/-- The reply that those fields say is right. -/
theorem reply_right {r : Rp} (h : tellE r 0 = 0) : tellE ⟨r.code, (tellTail r).filter (fun f => !isLength f.1), r.body⟩ 0 = 0 := by
  obtain ⟨h1, h2, ⟨h3, h4⟩, h5⟩ := tell_right h
  have hl : (cleanL r.fields).length ≤ r.fields.length := List.length_filter_le _ _
  rw [tail_filter]
  unfold tellE
  have hfu : fullB (cleanL r.fields).length r.body.length = false := by
    unfold fullB
    simp only [Bool.or_eq_false_iff, decide_eq_false_iff_not]
    omega
  simp only
  rw [hfu, if_neg (by simp), if_neg (by simp; omega)]
  exact clean_right h5
end Go.Proofs.YtooplackonnemaaDoor.FieldsC
