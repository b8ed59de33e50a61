/-
  What goes over comes over: in plain Lean.
  Conditions: none.
-/
import Derived.Test.YtooplackonnemaaDoorFieldsAskW
namespace Go.Proofs.YtooplackonnemaaDoor.FieldsC
open Go RowsK FieldRows LineC LineM
set_option linter.unusedVariables false
set_option linter.unusedSimpArgs false

theorem index_cut (sub : List UInt8) : ∀ (s : List UInt8) (i : Nat), Lib.index s sub = (i : Int) → s = s.take i ++ (sub ++ s.drop (i + sub.length))
  | [], i, h => by
    unfold Lib.index at h
    split at h
    · rename_i he
      obtain rfl : i = 0 := by omega
      rw [List.isEmpty_iff.1 he]; rfl
    · omega
  | b :: l, i, h => by
    unfold Lib.index at h
    split at h
    · rename_i hp
      obtain rfl : i = 0 := by omega
      obtain ⟨t, ht⟩ := List.isPrefixOf_iff_prefix.1 hp
      rw [List.take_zero, List.nil_append, Nat.zero_add, ← ht, List.drop_left]
    · have hg := Lib.index_ge l sub
      split at h
      · omega
      · rename_i hq
        have hq2 : Lib.index l sub ≠ -1 := by simpa using hq
        obtain ⟨j, rfl⟩ : ∃ j, i = j + 1 := ⟨i - 1, by omega⟩
        have ih := index_cut sub l j (by omega)
        rw [List.take_succ_cons, List.cons_append, show j + 1 + sub.length = (j + sub.length) + 1 from by omega, List.drop_succ_cons, ← ih]
/-- Pieces, put together again. -/
def flatC : List (List UInt8) → List UInt8
  | [] => []
  | p :: r => [59, 32] ++ p ++ flatC r
theorem splitK_flat (sep : List UInt8) (hs : sep = [59, 32]) : ∀ (k : Nat) (s : List UInt8), ∃ p r, Lib.splitK sep 0 k s = p :: r ∧ p ++ flatC r = s
  | 0, s => ⟨s, [], rfl, by simp [flatC]⟩
  | k + 1, s => by
    unfold Lib.splitK
    split
    · exact ⟨s, [], rfl, by simp [flatC]⟩
    · rename_i hne
      have h2 : Lib.index s sep ≠ -1 := by simpa using hne
      have h1 := Lib.index_ge s sep
      obtain ⟨i, hi⟩ : ∃ i : Nat, Lib.index s sep = (i : Int) := ⟨(Lib.index s sep).toNat, by omega⟩
      clear h1 h2
      have hc := index_cut sep s i hi
      obtain ⟨p, r, h1, h2⟩ := splitK_flat sep hs k (s.drop (i + sep.length))
      refine ⟨_, _, rfl, ?_⟩
      rw [hi]
      simp only [Int.toNat_natCast, Nat.add_zero]
      rw [h1]
      show s.take i ++ ([59, 32] ++ p ++ flatC r) = s
      rw [List.append_assoc, h2, ← hs]
      exact hc.symm
/-- A cookie's crumbs, put together again. -/
theorem parts_flat (s : ByteArray) : ∃ p r, partsC s = p :: r ∧ p.data.toList ++ flatC (r.map (·.data.toList)) = s.data.toList := by
  obtain ⟨p, r, h1, h2⟩ := splitK_flat sepC.data.toList rfl (Lib.countB s sepC) s.data.toList
  have hd := Lib.splitB_data sepC 0 (Lib.countB s sepC) s
  rw [h1] at hd
  unfold partsC
  rcases hp : Lib.splitB sepC 0 (Lib.countB s sepC) s with _ | ⟨q, t⟩
  · rw [hp] at hd; cases hd
  · rw [hp] at hd
    simp only [List.map_cons, List.cons.injEq] at hd
    refine ⟨q, t, rfl, ?_⟩
    rw [hd.1, hd.2]; exact h2
theorem ba_data {a b : ByteArray} (h : a.data.toList = b.data.toList) : a = b := by
  cases a; cases b
  simp only at h
  exact congrArg ByteArray.mk (Array.toList_inj.1 h)
/-- The crumbs behind the first. -/
def glue (v : ByteArray) : List ByteArray → ByteArray
  | [] => v
  | p :: r => glue (v ++ (crumbB ++ p)) r
theorem glue_data : ∀ (r : List ByteArray) (v : ByteArray), (glue v r).data.toList = v.data.toList ++ flatC (r.map (·.data.toList))
  | [], v => by simp [glue, flatC]
  | p :: r, v => by
    rw [glue, glue_data r]
    simp [flatC, crumbB]
theorem cookie_is {s : ByteArray} (h : isCookie s = true) : s = cookieB := by
  unfold isCookie at h
  apply ba_data
  rw [ByteArray.toList_eq] at h
  exact beq_iff_eq.1 h
theorem cookieB_is : isCookie cookieB = true ∧ isLength cookieB = false ∧ betweenB cookieB = false ∧ isHost cookieB = false ∧ colonB cookieB = false := by
  unfold isCookie isLength betweenB isHost isConn colonB
  rw [ByteArray.toList_eq]
  decide
theorem badF_cookie (bl p : ByteArray) : badF bl (cookieB, p) = false := by
  obtain ⟨-, h1, h2, h3, -⟩ := cookieB_is
  unfold badF
  rw [h1, h2, h3]; rfl
theorem run_crumbs (bl : ByteArray) : ∀ (ps : List ByteArray) (k : Nat) (out rest : List Fld) (v : ByteArray), out[k]? = some (cookieB, v) →
    askRun bl (some k, out) ((ps.map fun s => (cookieB, s)) ++ rest) = askRun bl (some k, out.set k (cookieB, glue v ps)) rest
  | [], k, out, rest, v, h => by
    obtain ⟨hk, hv⟩ := List.getElem?_eq_some_iff.1 h
    have : out.set k (cookieB, glue v []) = out := by
      apply List.ext_getElem (by simp)
      intro i h1 h2
      rw [List.getElem_set]
      split
      · rename_i e; subst e; exact hv.symm
      · rfl
    rw [this]; rfl
  | p :: ps, k, out, rest, v, h => by
    obtain ⟨hk, hv⟩ := List.getElem?_eq_some_iff.1 h
    obtain ⟨h1, h2, -⟩ := cookieB_is
    simp only [List.map_cons, List.cons_append, askRun]
    rw [badF_cookie, if_neg (by simp)]
    have hs : askStep (some k, out) (cookieB, p) = (some k, out.set k (cookieB, v ++ (crumbB ++ p))) := by
      unfold askStep
      rw [h2, h1]
      simp only [Bool.false_eq_true, if_false, if_true]
      rw [List.getD_eq_getElem?_getD, h]; rfl
    rw [hs, run_crumbs bl ps k _ rest (v ++ (crumbB ++ p)) (by rw [List.getElem?_set_self hk]), List.set_set]
    rfl
/-- A field that may stand in a request. -/
def goodF (f : Fld) : Bool := !betweenB f.1 && !isHost f.1 && !isLength f.1
theorem badF_good {bl : ByteArray} {f : Fld} (h : goodF f = true) : badF bl f = false := by
  unfold goodF at h
  simp only [Bool.and_eq_true, Bool.not_eq_true'] at h
  unfold badF
  rw [h.1.1, h.1.2, h.2]; rfl
theorem good_len {f : Fld} (h : goodF f = true) : isLength f.1 = false := by
  unfold goodF at h
  simp only [Bool.and_eq_true, Bool.not_eq_true'] at h
  exact h.2
def cookies (l : List Fld) : Nat := (l.filter fun f => isCookie f.1).length
theorem run_none (bl : ByteArray) : ∀ (l : List Fld) (ck : Option Nat) (out : List Fld), (∀ f ∈ l, goodF f = true) → cookies l = 0 → askRun bl (ck, out) (l.flatMap crumbs) = some (ck, out ++ l)
  | [], ck, out, _, _ => by simp [askRun]
  | f :: l, ck, out, hg, hc => by
    have hf := hg f List.mem_cons_self
    rcases hcf : isCookie f.1 with _ | _
    · have hc2 : cookies l = 0 := by unfold cookies at hc ⊢; rw [List.filter_cons, hcf, if_neg (by simp)] at hc; exact hc
      have e : crumbs f = [f] := by unfold crumbs; rw [hcf, if_neg (by simp)]
      rw [List.flatMap_cons, e]
      simp only [List.cons_append, List.nil_append, askRun]
      rw [badF_good hf, if_neg (by simp)]
      have hs : askStep (ck, out) f = (ck, out ++ [f]) := by unfold askStep; rw [good_len hf, hcf]; rfl
      rw [hs, run_none bl l ck _ (fun x hx => hg x (List.mem_cons_of_mem _ hx)) hc2]
      simp
    · unfold cookies at hc; rw [List.filter_cons, hcf, if_pos rfl] at hc; cases hc
/-- With at most one cookie all is as it was. -/
theorem run_one (bl : ByteArray) : ∀ (l : List Fld) (out : List Fld), (∀ f ∈ l, goodF f = true) → cookies l ≤ 1 → ∃ ck, askRun bl (none, out) (l.flatMap crumbs) = some (ck, out ++ l)
  | [], out, _, _ => ⟨none, by simp [askRun]⟩
  | f :: l, out, hg, hc => by
    have hf := hg f List.mem_cons_self
    have hg2 : ∀ x ∈ l, goodF x = true := fun x hx => hg x (List.mem_cons_of_mem _ hx)
    rcases hcf : isCookie f.1 with _ | _
    · have hc2 : cookies l ≤ 1 := by unfold cookies at hc ⊢; rw [List.filter_cons, hcf, if_neg (by simp)] at hc; exact hc
      have e : crumbs f = [f] := by unfold crumbs; rw [hcf, if_neg (by simp)]
      obtain ⟨ck, ih⟩ := run_one bl l (out ++ [f]) hg2 hc2
      refine ⟨ck, ?_⟩
      rw [List.flatMap_cons, e]
      simp only [List.cons_append, List.nil_append, askRun]
      rw [badF_good hf, if_neg (by simp)]
      have hs : askStep (none, out) f = (none, out ++ [f]) := by unfold askStep; rw [good_len hf, hcf]; rfl
      rw [hs, ih]
      simp
    · have hc2 : cookies l = 0 := by unfold cookies at hc ⊢; rw [List.filter_cons, hcf, if_pos rfl, List.length_cons] at hc; omega
      obtain ⟨fa, fb⟩ := f
      obtain rfl := cookie_is hcf
      obtain ⟨p, r, h1, h2⟩ := parts_flat fb
      have e : crumbs (cookieB, fb) = (cookieB, p) :: r.map fun s => (cookieB, s) := by unfold crumbs; rw [hcf, if_pos rfl, h1]; rfl
      refine ⟨some out.length, ?_⟩
      rw [List.flatMap_cons, e]
      simp only [List.cons_append, askRun]
      rw [badF_cookie, if_neg (by simp)]
      have hs : askStep (none, out) (cookieB, p) = (some out.length, out ++ [(cookieB, p)]) := by unfold askStep; rw [cookieB_is.2.1, cookieB_is.1]; rfl
      rw [hs, run_crumbs bl r out.length _ _ p (by simp)]
      have hgl : glue p r = fb := ba_data (by rw [glue_data, h2])
      rw [hgl]
      have hset : (out ++ [(cookieB, p)]).set out.length (cookieB, fb) = out ++ [(cookieB, fb)] := by simp
      rw [hset, run_none bl l _ _ hg2 hc2]
      simp
theorem run_bad (bl : ByteArray) : ∀ (l : List Fld) (s : Option Nat × List Fld), (∃ f ∈ l, badF bl f = true) → askRun bl s l = none
  | [], s, h => by obtain ⟨f, hf, -⟩ := h; cases hf
  | x :: l, s, h => by
    simp only [askRun]
    by_cases hx : badF bl x = true
    · rw [if_pos hx]
    · rw [if_neg hx]
      obtain ⟨f, hf, hb⟩ := h
      rcases List.mem_cons.1 hf with rfl | hf
      · exact absurd hb hx
      · exact run_bad bl l _ ⟨f, hf, hb⟩
/-- What is between two sides alone ends it. -/
theorem run_between (bl : ByteArray) (l : List Fld) (s : Option Nat × List Fld) (h : ∃ f ∈ l, betweenB f.1 = true) : askRun bl s (l.flatMap crumbs) = none := by
  obtain ⟨f, hf, hb⟩ := h
  refine run_bad bl _ s ⟨f, List.mem_flatMap.2 ⟨f, hf, ?_⟩, by unfold badF; rw [hb]; rfl⟩
  have hc : isCookie f.1 = false := by
    rcases hc : isCookie f.1 with _ | _
    · rfl
    · rw [cookie_is hc, cookieB_is.2.2.1] at hb; cases hb
  unfold crumbs
  rw [hc, if_neg (by simp)]
  exact List.mem_singleton.2 rfl
end Go.Proofs.YtooplackonnemaaDoor.FieldsC
