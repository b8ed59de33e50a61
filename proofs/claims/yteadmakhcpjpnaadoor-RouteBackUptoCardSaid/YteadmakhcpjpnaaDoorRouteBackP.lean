/-
  What is printed is read as it was; what is read is printed as it stood; who asks for a route's own path gets one no shorter: in plain Lean.
  Conditions: none.
-/
import Derived.Test.YteadmakhcpjpnaaDoorParseRefP
import Derived.Test.YteadmakhcpjpnaaDoorFind
import Derived.Test.YteadmakhcpjpnaaDoorPrint
namespace Go.Proofs.YteadmakhcpjpnaaDoor.RouteC
open Go LinesP LineC LogP
set_option linter.unusedVariables false
set_option linter.unusedSimpArgs false

theorem word_no10 {l : List UInt8} (h : wordL l = true) : (10 : UInt8) ∉ l := by
  intro hm
  unfold wordL plainL at h
  simp only [Bool.and_eq_true, List.all_eq_true] at h
  have := h.1.2.2 10 hm
  simp at this
theorem tok_no10 {l : List UInt8} (h : tokL l = true) : (10 : UInt8) ∉ l := by
  intro hm
  unfold tokL at h
  simp only [Bool.and_eq_true, List.all_eq_true] at h
  have := h.2 10 hm
  revert this
  decide
/-- The three words of a route that is right. -/
def hostW (r : RT) : List UInt8 := if r.host.toList.isEmpty then [42] else r.host.data.toList
theorem host_empty {r : RT} (h : r.host.toList.isEmpty = true) : r.host = ⟨#[]⟩ := by
  rw [emp_list, List.isEmpty_iff] at h
  obtain ⟨⟨l⟩, _, _⟩ := r
  simp only at h ⊢
  cases l
  simp only at h ⊢
  subst h; rfl
theorem right_words {r : RT} (h : badR r = false) : (∀ p ∈ [hostW r, r.path.data.toList, r.dest.data.toList], (10 : UInt8) ∉ p ∧ (32 : UInt8) ∉ p) ∧ hostW r ≠ [] ∧ routeW (hostW r) r.path.data.toList r.dest.data.toList = r := by
  unfold badR at h
  simp only [Bool.or_eq_false_iff, Bool.not_eq_false'] at h
  obtain ⟨⟨⟨h1, _⟩, h2⟩, h3⟩ := h
  have hh : ((10 : UInt8) ∉ hostW r ∧ (32 : UInt8) ∉ hostW r) ∧ hostW r ≠ [] ∧ (if hostW r = [42] then (⟨#[]⟩ : ByteArray) else toBA (hostW r)) = r.host := by
    unfold hostW
    rcases he : r.host.toList.isEmpty with _ | _
    · rw [he] at h1
      simp only [Bool.not_false, Bool.true_and, Bool.or_eq_false_iff, Bool.not_eq_false'] at h1
      have hne : r.host.data.toList ≠ [] := fun e => by rw [emp_list, e] at he; cases he
      have hns : r.host.data.toList ≠ [42] := fun e => by
        have := h1.2
        rw [ByteArray.toList_eq, e] at this
        cases this
      simp only [Bool.false_eq_true, if_false]
      exact ⟨⟨word_no10 h1.1, word_blank h1.1⟩, hne, by rw [if_neg hns]; rfl⟩
    · simp only [if_true]
      exact ⟨⟨by decide, by decide⟩, by decide, (host_empty he).symm⟩
  refine ⟨?_, hh.2.1, ?_⟩
  · intro p hp
    simp only [List.mem_cons, List.not_mem_nil, or_false] at hp
    rcases hp with rfl | rfl | rfl
    · exact hh.1
    · exact ⟨word_no10 h2, word_blank h2⟩
    · exact ⟨tok_no10 h3, tok_blank h3⟩
  · unfold routeW
    rw [hh.2.2]
    cases r; rfl
theorem join3 (a b c : List UInt8) : Lib.join [a, b, c] [32] = a ++ ([32] ++ (b ++ ([32] ++ c))) := by simp [Lib.join, List.intercalate, List.intersperse]
theorem no10_3 {a b c : List UInt8} (h : ∀ p ∈ [a, b, c], (10 : UInt8) ∉ p ∧ (32 : UInt8) ∉ p) : (10 : UInt8) ∉ Lib.join [a, b, c] [32] := by
  rw [join3]
  intro hm
  simp only [List.mem_append, List.mem_singleton] at hm
  rcases hm with h1 | h1 | h1 | h1 | h1
  · exact (h a (by simp)).1 h1
  · exact absurd h1 (by decide)
  · exact (h b (by simp)).1 h1
  · exact absurd h1 (by decide)
  · exact (h c (by simp)).1 h1
theorem printR_join (r : RT) : printR r = Lib.join [hostW r, r.path.data.toList, r.dest.data.toList] [32] ++ [10] := by
  rw [join3]
  unfold printR hostW
  simp
theorem print_step {l0 : List RT} {r : RT} (h : badR r = false) (hl : l0.length < 20) (he : routeE (l0 ++ [r]) l0.length r = 0) : stepP l0 (printR r) = (0, l0 ++ [r]) := by
  obtain ⟨hw, hn, hr⟩ := right_words h
  have hno := no10_3 hw
  unfold stepP
  rw [printR_join, body_end _ hno, split_join 32 _ (by simp) (fun p hp => (hw p hp).2)]
  unfold stepW
  rw [if_neg (by simp), if_neg (by omega), if_neg (by simpa using hn)]
  simp only [List.getD_cons_zero, List.getD_cons_succ]
  rw [hr, he, if_pos rfl]
theorem routeE_take {l : List RT} {i : Nat} (hi : i < l.length) : routeE (l.take i ++ [l[i]]) (l.take i).length l[i] = routeE l i l[i] := by
  unfold routeE
  rw [List.take_left]
theorem lines_print : ∀ {l : List RT}, (∀ r ∈ l, badR r = false) → linesS (printL l) = l.map printR
  | [], _ => rfl
  | r :: l, h => by
    have ih := lines_print (l := l) (fun x hx => h x (List.mem_cons_of_mem _ hx))
    obtain ⟨hw, -, -⟩ := right_words (h r List.mem_cons_self)
    have hno := no10_3 hw
    have e : printL (r :: l) = printR r ++ printL l := by simp [printL]
    rw [e, printR_join, List.append_assoc, show ([10] : List UInt8) ++ printL l = 10 :: printL l from rfl, lines_end _ _ hno, ih, List.map_cons, printR_join]
theorem run_print {l : List RT} (h20 : l.length ≤ 20) (hbad : ∀ r ∈ l, badR r = false) (hE : ∀ i (hi : i < l.length), routeE l i l[i] = 0) : ∀ i, i ≤ l.length → runP [] ((l.take i).map printR) = (0, l.take i)
  | 0, _ => by simp [runP]
  | i + 1, hi => by
    have ih := run_print h20 hbad hE i (by omega)
    have hi' : i < l.length := by omega
    rw [List.take_succ_eq_append_getElem hi', List.map_append, List.map_cons, List.map_nil, run_snoc _ _ _ (by rw [ih]), ih]
    simp only
    refine (print_step (hbad _ (List.getElem_mem hi')) (by rw [List.length_take]; omega) ?_)
    rw [routeE_take hi']
    exact hE i hi'
theorem checkE_all {l : List RT} (h : checkE l = 0) : ∀ i (hi : i < l.length), routeE l i l[i] = 0 := by
  intro i hi
  unfold checkE at h
  split at h
  · cases h
  · have h1 := checkUpto_zero (l := l) (i := i + 1) hi h
    have h0 := checkUpto_zero (l := l) (i := i) (by omega) h
    unfold checkUpto at h1
    rw [if_neg (by rw [h0]; simp)] at h1
    rwa [show l.getD i default = l[i] by simp [List.getD, List.getElem?_eq_getElem hi]] at h1
/-- What is printed is read as it was. -/
theorem parse_print {l : List RT} (h : checkE l = 0) : parseP (printL l) = (l, 0, 0) := by
  obtain ⟨h20, hbad⟩ := right_all h
  have hr := run_print h20 hbad (checkE_all h) l.length (Nat.le_refl _)
  rw [List.take_length] at hr
  unfold parseP
  simp only
  rw [lines_print hbad, hr]
  rfl
theorem checkUpto_take {l : List RT} {r : RT} : ∀ n, n ≤ l.length → checkUpto (l ++ [r]) n = checkUpto l n
  | 0, _ => rfl
  | n + 1, h => by
    have ih := checkUpto_take (l := l) (r := r) n (by omega)
    unfold checkUpto
    rw [ih]
    have e1 : (l ++ [r]).getD n default = l.getD n default := by simp [List.getD, List.getElem?_append_left (show n < l.length by omega)]
    have e2 : ∀ x, routeE (l ++ [r]) n x = routeE l n x := fun x => by unfold routeE; rw [List.take_append_of_le_length (by omega)]
    rw [e1, e2]
theorem run_back : ∀ (ls : List (List UInt8)) (l0 l : List RT), runP l0 ls = (0, l) → checkUpto l0 l0.length = 0 → l0.length ≤ 20 → checkUpto l l.length = 0 ∧ l.length ≤ 20 ∧ printL l = printL l0 ++ ls.flatten
  | [], l0, l, h, h1, h2 => by
    simp only [runP, Prod.mk.injEq, true_and] at h
    subst h
    exact ⟨h1, h2, by simp⟩
  | s :: ls, l0, l, h, h1, h2 => by
    simp only [runP] at h
    by_cases h0 : (stepP l0 s).1 = 0
    · rw [if_pos h0] at h
      have hb : ∃ b, bodyE s = (b, true) ∧ s = b ++ [10] := by
        by_cases he : (bodyE s).2 = true
        · refine ⟨(bodyE s).1, Prod.ext rfl he, ?_⟩
          unfold bodyE Lib.trimSuffix at he ⊢
          simp only at he ⊢
          rw [if_pos he]
          unfold Lib.hasSuffix at he
          obtain ⟨t, ht⟩ := List.isSuffixOf_iff_suffix.1 he
          rw [← ht]
          simp
        · exfalso
          unfold stepP stepW at h0
          rw [if_pos (.inl (by simpa using he))] at h0
          cases h0
      obtain ⟨b, hb1, hb2⟩ := hb
      have hj := LogP.join_split 32 b.length b (Nat.le_refl _)
      obtain ⟨ws, hws⟩ : ∃ ws, Lib.split b [32] = ws := ⟨_, rfl⟩
      have hs : stepP l0 s = stepW l0 ws true := by unfold stepP; rw [hb1, hws]
      rw [hws] at hj
      rw [hs] at h0 h
      unfold stepW at h0 h
      by_cases hw : ws.length = 3
      · rw [if_neg (by simp [hw])] at h0 h
        by_cases hf : l0.length = 20
        · rw [if_pos hf] at h0; cases h0
        · rw [if_neg hf] at h0 h
          obtain ⟨x, y, z, rfl⟩ : ∃ x y z, ws = [x, y, z] := by
            match ws, hw with
            | [x, y, z], _ => exact ⟨x, y, z, rfl⟩
          simp only [List.getD_cons_zero, List.getD_cons_succ] at h0 h
          by_cases hx : x = []
          · rw [if_pos hx] at h0; cases h0
          · rw [if_neg hx] at h0 h
            simp only at h0 h
            rw [if_pos h0] at h
            have hc : checkUpto (l0 ++ [routeW x y z]) (l0 ++ [routeW x y z]).length = 0 := by
              rw [List.length_append, List.length_singleton]
              unfold checkUpto
              rw [checkUpto_take _ (Nat.le_refl _), h1, if_neg (by simp), show (l0 ++ [routeW x y z]).getD l0.length default = routeW x y z by simp [List.getD]]
              exact h0
            obtain ⟨g1, g2, g3⟩ := run_back ls _ l h hc (by simp; omega)
            refine ⟨g1, g2, ?_⟩
            rw [g3, List.flatten_cons, hb2, ← hj.1]
            have hp : printL (l0 ++ [routeW x y z]) = printL l0 ++ printR (routeW x y z) := by simp [printL]
            rw [hp, List.append_assoc]
            congr 1
            congr 1
            rw [printR_join]
            have hh : hostW (routeW x y z) = x := by
              unfold hostW routeW
              simp only
              by_cases hx2 : x = [42]
              · rw [if_pos hx2, hx2, emp_list]; rfl
              · rw [if_neg hx2]
                have : (toBA x).toList.isEmpty = false := by rw [emp_list]; simpa [toBA] using hx
                rw [this]
                simp [toBA]
            rw [hh]
            simp [routeW, toBA]
      · rw [if_pos (.inr hw)] at h0; cases h0
    · rw [if_neg h0] at h
      rw [h] at h0
      exact absurd rfl h0
theorem flat_lines : ∀ (t : List UInt8), (linesS t).flatten = t
  | [] => rfl
  | c :: r => by
    have ih := flat_lines r
    unfold linesS
    by_cases hc : c = 10
    · rw [if_pos hc, List.flatten_cons, ih, hc]; rfl
    · rw [if_neg hc]
      rcases h : linesS r with _ | ⟨x, xs⟩
      · rw [h] at ih
        simp at ih ⊢
        exact ih
      · rw [h] at ih
        simp only [List.flatten_cons] at ih ⊢
        rw [List.cons_append, ih]
/-- What is read is printed as it stood. -/
theorem parse_back {t : List UInt8} {l : List RT} {j k : Int} (h : parseP t = (l, j, k)) (hk : k = 0) : checkE l = 0 ∧ printL l = t := by
  unfold parseP at h
  simp only at h
  by_cases h0 : (runP [] (linesS t)).1 = 0
  · rw [if_pos h0] at h
    simp only [Prod.mk.injEq] at h
    obtain ⟨rfl, -, -⟩ := h
    obtain ⟨g1, g2, g3⟩ := run_back (linesS t) [] (runP [] (linesS t)).2 (Prod.ext h0 rfl) rfl (by simp)
    refine ⟨by unfold checkE; rw [if_neg (by omega), g1], ?_⟩
    rw [g3, flat_lines]; rfl
  · rw [if_neg h0] at h
    simp only [Prod.mk.injEq] at h
    exact absurd (h.2.2.trans hk) h0
theorem fits_own (r : RT) : fitsB r r.host r.path = true := by
  unfold fitsB
  have h1 : Lib.hasPrefix r.path.data.toList r.path.data.toList = true := by unfold Lib.hasPrefix; exact List.isPrefixOf_iff_prefix.2 (List.prefix_refl _)
  have h2 : (restB r r.path).toList.isEmpty = true := by
    unfold restB Lib.trimPrefix
    rw [h1]
    simp [ByteArray.toList_eq]
  rw [h1, h2]
  simp
theorem best_own {l : List RT} {i : Nat} (hi : i < l.length) : ∀ n, i < n → ∃ k, bestUpto l l[i].host l[i].path n = some k ∧ l[i].path.size ≤ (l.getD k default).path.size
  | 0, h => by omega
  | n + 1, h => by
    have hg : l.getD i default = l[i] := by simp [List.getD, List.getElem?_eq_getElem hi]
    by_cases hin : i = n
    · subst hin
      unfold bestUpto
      rw [hg, fits_own, Bool.true_and]
      by_cases hb : better l (bestUpto l l[i].host l[i].path i) l[i] = true
      · rw [if_pos hb]; exact ⟨i, rfl, by rw [hg]; exact Nat.le_refl _⟩
      · rw [if_neg hb]
        unfold better at hb
        rcases hk : bestUpto l l[i].host l[i].path i with _ | k
        · rw [hk] at hb; exact absurd rfl hb
        · rw [hk] at hb
          simp only [Bool.or_eq_true, decide_eq_true_eq, not_or] at hb
          exact ⟨k, rfl, by omega⟩
    · obtain ⟨k, hk, hs⟩ := best_own hi n (by omega)
      unfold bestUpto
      rw [hk]
      split
      · rename_i hc
        rw [Bool.and_eq_true] at hc
        unfold better at hc
        simp only [Bool.or_eq_true, Bool.and_eq_true, decide_eq_true_eq] at hc
        refine ⟨n, rfl, ?_⟩
        rcases hc.2 with h2 | h2
        · omega
        · have := h2.1; omega
      · exact ⟨k, rfl, hs⟩
/-- Who asks for a route's own path, of its host, gets one no shorter. -/
theorem find_own {l : List RT} (h : checkE l = 0) {i : Nat} (hi : i < l.length) : ∃ k, k < l.length ∧ findE l l[i].host l[i].path = ((k : Int), 0) ∧ (l.getD k default).path.size = l[i].path.size := by
  obtain ⟨k, hk, hs⟩ := best_own hi l.length hi
  obtain ⟨hk1, hf⟩ := bestUpto_fits hk
  refine ⟨k, hk1, by unfold findE; rw [if_neg (by simp [h]), hk], ?_⟩
  unfold fitsB at hf
  simp only [Bool.and_eq_true] at hf
  have hp := hf.1.1
  unfold Lib.hasPrefix at hp
  have := (List.isPrefixOf_iff_prefix.1 hp).length_le
  rw [← size_list, ← size_list] at this
  omega
end Go.Proofs.YteadmakhcpjpnaaDoor.RouteC
