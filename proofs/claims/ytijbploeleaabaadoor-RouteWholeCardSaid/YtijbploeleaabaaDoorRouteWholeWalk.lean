/-
  The walk of the law RouteWhole: for all routes, hosts and paths it returns true and writes nothing that was there.
  Conditions: none.
-/
import Derived.Test.YtijbploeleaabaaDoorArgs
import Derived.Test.YtijbploeleaabaaDoorRoutesArg
import Derived.Test.YtijbploeleaabaaDoorRest
import Derived.Lib.Strings
import Derived.Lib.IndexBytes
namespace Go.Proofs.YtijbploeleaabaaDoor.WalkRouteWhole
open Go.RowKit RowsK LineC RouteC AfterL
set_option linter.unusedVariables false
set_option linter.unusedSimpArgs false

theorem ba_ext {a b : ByteArray} (h : a.data.toList = b.data.toList) : a = b := by
  cases a; cases b
  simpa using h
theorem whole_facts {r : RT} {host path : ByteArray} (hb : badR r = false) (hf : fitsB r host path = true) :
    path.extract 0 r.path.size = r.path ∧ path.extract r.path.size path.size = restB r path ∧ r.path.size + (restB r path).size = path.size ∧ 1 ≤ r.path.size := by
  obtain ⟨h1, h2⟩ := rest_size hb hf
  obtain ⟨t, ht⟩ := bad_path hb
  have hk : r.path.size = r.path.data.toList.length := size_list _
  have hl : path.size = path.data.toList.length := size_list _
  have hq : (restB r path).size = (restB r path).data.toList.length := size_list _
  refine ⟨ba_ext ?_, ba_ext ?_, ?_, ?_⟩
  · rw [Lib.extract_data, h2, List.drop_zero, Nat.sub_zero, hk, List.take_left]
  · rw [Lib.extract_to_end, h2, hk, List.drop_left]
  · rw [hk, hl, hq, h2, List.length_append]
  · rw [hk, ht]; simp
def one : List RT := [⟨⟨#[]⟩, ⟨#[47, 97]⟩, ⟨#[120]⟩⟩]
theorem nil_list : (⟨#[]⟩ : ByteArray).toList = [] := by rw [ByteArray.toList_eq]
theorem one_ok : checkE one = 0 := by
  unfold checkE one
  simp only [List.length_singleton, checkUpto, routeE, badR, List.getD_cons_zero, nil_list]
  decide
theorem one_no : findE one ⟨#[104]⟩ ⟨#[47, 97, 98]⟩ = (0, 5) := by
  unfold findE
  rw [one_ok, if_neg (by simp)]
  have h : bestUpto one ⟨#[104]⟩ ⟨#[47, 97, 98]⟩ one.length = none := by
    show bestUpto one _ _ 1 = none
    unfold bestUpto bestUpto fitsB restB
    simp only [one, List.getD_cons_zero, nil_list, ByteArray.toList_eq]
    decide
  rw [h]
theorem one_yes : findE one ⟨#[104]⟩ ⟨#[47, 97, 47, 98]⟩ = (0, 0) := by
  unfold findE
  rw [one_ok, if_neg (by simp)]
  have h : bestUpto one ⟨#[104]⟩ ⟨#[47, 97, 47, 98]⟩ one.length = some 0 := by
    show bestUpto one _ _ 1 = some 0
    unfold bestUpto bestUpto fitsB restB
    simp only [one, List.getD_cons_zero, nil_list, ByteArray.toList_eq]
    decide
  rw [h]; rfl
theorem at_one {w : World} {g : Nat} (h0 : w.cell? ⟨g, 0, none⟩ = some (.string ⟨#[]⟩)) (h1 : w.cell? ⟨g, 1, none⟩ = some (.string ⟨#[47, 97]⟩)) (h2 : w.cell? ⟨g, 2, none⟩ = some (.string ⟨#[120]⟩)) : At encR w (.slice (some ⟨g, 0, none⟩) 1 1) one := by
  refine ⟨some ⟨g, 0, none⟩, 1, rfl, Nat.le_refl _, by decide, by simp, fun i hi => ⟨g, 0, rfl, block_lt_of_cell h0, fun j hj => ?_⟩⟩
  have hi0 : i = 0 := by simp [one] at hi; exact hi
  subst hi0
  have hj3 : j < 3 := hj
  rcases j with _ | _ | _ | j
  · exact h0
  · exact h1
  · exact h2
  · omega
theorem head_index (x : ByteArray) (i : Nat) (c : UInt8) (h : x.data.toList[i]? = some c) (W : World) : (Instr.index 9 (.string x) (.int .i64 i)).run Tryd.prog W = .ok (.int .u8 c.toNat) W := by
  obtain ⟨hi, hc⟩ := List.getElem?_eq_some_iff.1 h
  have hsz := size_list x
  rw [run_index_string _ _ _ _ _ Tryd.underlying9, dif_pos ⟨by omega, by omega⟩]
  have e : (x[(i : Int).toNat]'(by rw [Int.toNat_natCast]; omega)) = c := by rw [← hc]; rfl
  rw [e]
theorem cat_list (q : ByteArray) : ((⟨#[47]⟩ : ByteArray) ++ q).data.toList = 47 :: q.data.toList := by
  simp
theorem restF_cases (r : RT) (path : ByteArray) (h : ((restB r path).toList.isEmpty || (restB r path).data.toList.head? == some 47 || Lib.hasSuffix r.path.data.toList [47]) = true) :
    ((restB r path).data.toList = [] ∧ restF r path = ⟨#[47]⟩ ++ restB r path) ∨ ((restB r path).data.toList.head? = some 47 ∧ restF r path = restB r path) ∨
    (∃ c, (restB r path).data.toList.head? = some c ∧ c ≠ 47 ∧ r.path.data.toList.getLast? = some 47 ∧ restF r path = ⟨#[47]⟩ ++ restB r path) := by
  rw [emp_list] at h
  unfold restF Lib.hasPrefix
  rcases hq : (restB r path).data.toList with _ | ⟨c, t⟩
  · exact .inl ⟨rfl, by simp⟩
  · by_cases hc : c = 47
    · subst hc
      exact .inr (.inl ⟨rfl, by simp⟩)
    · refine .inr (.inr ⟨c, rfl, hc, ?_, by simp [hc]; intro e; exact absurd e.symm hc⟩)
      rw [hq] at h
      simp only [List.isEmpty_cons, List.head?_cons, Bool.false_or, Bool.or_eq_true, beq_iff_eq, Option.some.injEq, hc, false_or] at h
      unfold Lib.hasSuffix at h
      obtain ⟨u, hu⟩ := List.isSuffixOf_iff_suffix.1 h
      rw [← hu, List.getLast?_append]
      simp
set_option maxRecDepth 100000 in
set_option maxHeartbeats 16000000 in
theorem walk (v0 : Value) (l : List RT) (host path : ByteArray) (w : World) (hl : Args.RoutesAt w v0 l) (hh : host.size ≤ maxLen) (hp : path.size ≤ maxLen) :
    Calls Tryd.prog 3 #[v0, .string host, .string path] w fun e w' => e = .returned (.bool true) ∧ Below w.heap.size w w' := by
  obtain ⟨hat, hsz⟩ := hl
  have HAT := Lib.hid hat
  have HSZ := Lib.hid (fun r hr => (hsz r hr).2.1)
  obtain ⟨a, cap, rfl, hcap, hcap2, _⟩ := hat
  clear hsz
  have HF0 := Lib.hid (fun (W : World) (hh : Held w W ⟨#[]⟩ ⟨#[47, 97]⟩ ⟨#[120]⟩) => find_any _ one ⟨#[104]⟩ ⟨#[47, 97, 98]⟩ W (at_one hh.c0 hh.c1 hh.c2) (by unfold one maxLen; intro r hr; simp at hr; rw [hr]; decide))
  have HF1 := Lib.hid (fun (W : World) (hh : Held w W ⟨#[]⟩ ⟨#[47, 97]⟩ ⟨#[120]⟩) => find_any _ one ⟨#[104]⟩ ⟨#[47, 97, 47, 98]⟩ W (at_one hh.c0 hh.c1 hh.c2) (by unfold one maxLen; intro r hr; simp at hr; rw [hr]; decide))
  rw [one_no] at HF0
  rw [one_yes] at HF1
  change Hid (∀ (W : World) (hh : Held w W ⟨#[]⟩ ⟨#[47, 97]⟩ ⟨#[120]⟩), Calls Tryd.prog 7 #[.slice (some ⟨w.heap.size, 0, none⟩) 1 1, .string ⟨#[104]⟩, .string ⟨#[47, 97, 98]⟩] W fun e W' => e = .returned (.tuple #[.int .i64 0, .iface 48 (.int .i64 5)]) ∧ Below W.heap.size W W') at HF0
  change Hid (∀ (W : World) (hh : Held w W ⟨#[]⟩ ⟨#[47, 97]⟩ ⟨#[120]⟩), Calls Tryd.prog 7 #[.slice (some ⟨w.heap.size, 0, none⟩) 1 1, .string ⟨#[104]⟩, .string ⟨#[47, 97, 47, 98]⟩] W fun e W' => e = .returned (.tuple #[.int .i64 0, .nilIface]) ∧ Below W.heap.size W W') at HF1
  have HFL := Lib.hid (fun (W : World) (hW : Below w.heap.size w W) => find_any _ l host path W (HAT.out.old hW) HSZ.out)
  have HRE := Lib.hid (fun (W : World) (hW : Below w.heap.size w W) => rest_any _ l host path W (HAT.out.old hW) HSZ.out hp)
  have HS : Hid (Held w (w.alloc (.cells #[.string ⟨#[]⟩, .string ⟨#[47, 97]⟩, .string ⟨#[120]⟩] 24)) ⟨#[]⟩ ⟨#[47, 97]⟩ ⟨#[120]⟩) := (⟨(Below.refl w.heap.size w).alloc (Nat.le_refl _) _, by simp, by simp, by simp, by simp⟩ : Held _ _ _ _ _)
  by_cases h0 : (findE l host path).2 = 0
  · obtain ⟨k, hk, h1, h2, h3⟩ := findE_some h0
    have hE : findE l host path = ((k : Int), 0) := Prod.ext h1 h0
    rw [hE] at HFL
    change Hid (∀ (W : World), Below w.heap.size w W → Calls Tryd.prog 7 #[.slice a l.length cap, .string host, .string path] W fun e W' => e = .returned (.tuple #[.int .i64 k, .nilIface]) ∧ Below W.heap.size W W') at HFL
    have HRE2 := Lib.hid (fun (W : World) (hW : Below w.heap.size w W) => (HRE.out W hW).mono (R' := fun e w' => e = .returned (.tuple #[.string (l.getD k default).dest, .string (restF (l.getD k default) path), .nilIface]) ∧ Below W.heap.size W w') (by
      rintro e w' ⟨hB, ⟨h, _⟩ | ⟨k', _, h, _, _, rfl⟩⟩
      · exact absurd h0 h
      · rw [hE] at h
        have hkk : k = k' := by simp only [Prod.mk.injEq, and_true] at h; omega
        rw [hkk]; exact ⟨rfl, hB⟩))
    obtain ⟨x0, x1, xs, x2⟩ := whole_facts h3 h2
    obtain ⟨_, hpl⟩ := rest_size h3 h2
    have HPL := Lib.hid hpl
    clear hpl
    have hfit := h2
    unfold fitsB at hfit
    simp only [Bool.and_eq_true] at hfit
    have hc := restF_cases _ path hfit.2
    have hhost := hfit.1.2
    obtain ⟨ab, off, rfl, hab, hce⟩ := At.elem HAT.out k hk
    obtain ⟨c0, c1, c2⟩ := hce k hk
    have C0 := Lib.hid c0
    have C1 := Lib.hid c1
    have C2 := Lib.hid c2
    clear hfit h0 h1 h2 h3 hE HRE c0 c1 c2 hce
    generalize restF (l.getD k default) path = F at *
    generalize restB (l.getD k default) path = q at *
    generalize l.getD k default = r at *
    obtain ⟨rh, rp, rt⟩ := r
    simp only at *
    have hk0 : (0 : Int) ≤ (k : Int) := by omega
    have hk1 : (k : Int) < (l.length : Int) := by omega
    have hF0 : F.data.toList[0]? = some 47 := by
      rcases hc with ⟨_, rfl⟩ | ⟨h, rfl⟩ | ⟨c, _, _, _, rfl⟩
      · rw [cat_list]; rfl
      · rw [← List.head?_eq_getElem?]; exact h
      · rw [cat_list]; rfl
    have hF : F.toList.isEmpty = false := by
      rw [emp_list]
      cases h : F.data.toList with
      | nil => rw [h] at hF0; cases hF0
      | cons _ _ => rfl
    have hF2 : F.data.isEmpty = false := by
      have : F.data.toList.isEmpty = false := by rw [← emp_list]; exact hF
      simpa using this
    have hrun0 : Hid (∀ W, (Instr.index 9 (.string F) (.int .i64 0)).run Tryd.prog W = .ok (.int .u8 47) W) := fun W => head_index F 0 47 hF0 W
    have hd1 : (decide ((path.size : Int) < (rp.size : Int))) = false := decide_eq_false (by omega)
    have hd2 : (decide (path.size < rp.size)) = false := decide_eq_false (by omega)
    have hle : (rp.size : Int) ≤ (path.size : Int) := by omega
    have hle0 : (0 : Int) ≤ (rp.size : Int) := by omega
    have hcat : ¬ 9223372036854775807 < 1 + q.size := by unfold maxLen at hp; omega
    have hsp := size_list path
    have hsr := size_list rp
    have hsq := size_list q
    have hsF := size_list F
    have hcase : (((F.toList == q.toList) = false ∧ (F.toList == ((⟨#[47]⟩ : ByteArray) ++ q).toList) = true) ∧ (rp.size = path.size ∨ (rp.size < path.size ∧ ∃ c : UInt8, path.data.toList[rp.size]? = some c ∧ ((c.toNat : Int) == 47) = false ∧ rp.data.toList[rp.size - 1]? = some 47))) ∨
        ((F.toList == q.toList) = true ∧ rp.size < path.size ∧ path.data.toList[rp.size]? = some 47) := by
      have hidx : path.data.toList[rp.size]? = q.data.toList[0]? := by rw [HPL.out, hsr, List.getElem?_append_right (Nat.le_refl _), Nat.sub_self]
      have hne : F = (⟨#[47]⟩ : ByteArray) ++ q → (F.toList == q.toList) = false ∧ (F.toList == ((⟨#[47]⟩ : ByteArray) ++ q).toList) = true := by
        intro e
        refine ⟨?_, by rw [e]; simp⟩
        refine beq_eq_false_iff_ne.2 fun h => ?_
        rw [ByteArray.toList_eq, ByteArray.toList_eq, e, cat_list] at h
        exact List.cons_ne_self _ _ h
      rcases hc with ⟨h, e⟩ | ⟨h, e⟩ | ⟨c, h, hc47, hl, e⟩
      · refine .inl ⟨hne e, .inl ?_⟩
        have hq0 : q.size = 0 := by rw [hsq, h]; rfl
        omega
      · refine .inr ⟨by rw [e]; simp, ?_, ?_⟩
        · rcases hq : q.data.toList with _ | ⟨x, t⟩
          · rw [hq] at h; cases h
          · rw [hq] at hsq; simp at hsq; omega
        · rw [hidx, ← List.head?_eq_getElem?]; exact h
      · refine .inl ⟨hne e, .inr ⟨?_, c, ?_, ?_, ?_⟩⟩
        · rcases hq : q.data.toList with _ | ⟨x, t⟩
          · rw [hq] at h; cases h
          · rw [hq] at hsq; simp at hsq; omega
        · rw [hidx, ← List.head?_eq_getElem?]; exact h
        · rw [c47]; exact beq_eq_false_iff_ne.2 hc47
        · rw [hsr, ← List.getLast?_eq_getElem?]; exact hl
    have HXS := Lib.hid xs
    have HX1 := Lib.hid x2
    clear xs hc hF0 hsp hsr hsq hsF x2 HPL
    have hpm : (path.size : Int) ≤ 9223372036854775807 := by unfold maxLen at hp; omega
    have HCASE := Lib.hid hcase
    clear hcase
    rcases hh0 : rh.toList.isEmpty with _ | _
    · have hh1 : (rh.toList == host.toList) = true := by rw [hh0] at hhost; simpa using hhost
      rcases HCASE.out with ⟨⟨f1, f2⟩, hE | ⟨hlt, c, hcc, hc47, hl47⟩⟩ | ⟨f1, hlt, hcc⟩
      · have hn : ¬ rp.size < path.size := by omega
        clear hE HCASE
        go_enter Tryd.func3, Tryd.ntmps3
        go_upto_region 10 with (first
          | (go_at_call 7; (with_reducible refine (HF0.out _ HS.out).mono ?_); rintro e w1 ⟨rfl, hB1⟩; replace HS := Lib.hid (HS.out.step hB1); clear hB1)
          | (go_at_call 7; (with_reducible refine (HF1.out _ HS.out).mono ?_); rintro e w2 ⟨rfl, hB2⟩; replace HS := Lib.hid (HS.out.step hB2); clear hB2)
          | (go_at_call 7; (with_reducible refine (HFL.out _ HS.out.bel).mono ?_); rintro e w3 ⟨rfl, hB3⟩; replace HS := Lib.hid (HS.out.step hB3); clear hB3)
          | (go_at_call 8; (with_reducible refine (HRE2.out _ HS.out.bel).mono ?_); rintro e w4 ⟨rfl, hB4⟩; replace HS := Lib.hid (HS.out.step hB4); clear hB4))
        have g0 := (HS.out.bel.cell (p := ⟨ab, off + k * 3, none⟩) hab).trans C0.out
        have g1 := (HS.out.bel.cell (p := ⟨ab, off + k * 3 + 1, none⟩) hab).trans C1.out
        have g2 := (HS.out.bel.cell (p := ⟨ab, off + k * 3 + 2, none⟩) hab).trans C2.out
        have hrun := hrun0.out
        go_upto_region 12 with fail
        go_quiet (fail)
        go_wp2
        go_ret
        exact ⟨by first | rfl | simp [*], below_drewN' (HS.out.bel.alloc (Nat.le_of_lt HS.out.lt) _) _⟩
      · have hix : ∀ W, (Instr.index 9 (.string path) (.int .i64 rp.size)).run Tryd.prog W = .ok (.int .u8 c.toNat) W := head_index path rp.size c hcc
        have hiy : ∀ W, (Instr.index 9 (.string rp) (.int .i64 ((rp.size : Int) - 1))).run Tryd.prog W = .ok (.int .u8 47) W := fun W => by
          have := head_index rp (rp.size - 1) 47 hl47 W
          rwa [show ((rp.size - 1 : Nat) : Int) = (rp.size : Int) - 1 by have := HX1.out; omega] at this
        have hc48 : ¬ (c.toNat : Int) = 47 := by simpa using hc47
        clear hcc hl47 HCASE
        go_enter Tryd.func3, Tryd.ntmps3
        go_upto_region 10 with (first
          | (go_at_call 7; (with_reducible refine (HF0.out _ HS.out).mono ?_); rintro e w1 ⟨rfl, hB1⟩; replace HS := Lib.hid (HS.out.step hB1); clear hB1)
          | (go_at_call 7; (with_reducible refine (HF1.out _ HS.out).mono ?_); rintro e w2 ⟨rfl, hB2⟩; replace HS := Lib.hid (HS.out.step hB2); clear hB2)
          | (go_at_call 7; (with_reducible refine (HFL.out _ HS.out.bel).mono ?_); rintro e w3 ⟨rfl, hB3⟩; replace HS := Lib.hid (HS.out.step hB3); clear hB3)
          | (go_at_call 8; (with_reducible refine (HRE2.out _ HS.out.bel).mono ?_); rintro e w4 ⟨rfl, hB4⟩; replace HS := Lib.hid (HS.out.step hB4); clear hB4))
        have g0 := (HS.out.bel.cell (p := ⟨ab, off + k * 3, none⟩) hab).trans C0.out
        have g1 := (HS.out.bel.cell (p := ⟨ab, off + k * 3 + 1, none⟩) hab).trans C1.out
        have g2 := (HS.out.bel.cell (p := ⟨ab, off + k * 3 + 2, none⟩) hab).trans C2.out
        have hrun := hrun0.out
        go_upto_region 12 with fail
        go_quiet (fail)
        go_wp2
        go_ret
        exact ⟨by first | rfl | simp [*], below_drewN' (HS.out.bel.alloc (Nat.le_of_lt HS.out.lt) _) _⟩
      · have hix : ∀ W, (Instr.index 9 (.string path) (.int .i64 rp.size)).run Tryd.prog W = .ok (.int .u8 47) W := head_index path rp.size 47 hcc
        clear hcc HCASE
        go_enter Tryd.func3, Tryd.ntmps3
        go_upto_region 10 with (first
          | (go_at_call 7; (with_reducible refine (HF0.out _ HS.out).mono ?_); rintro e w1 ⟨rfl, hB1⟩; replace HS := Lib.hid (HS.out.step hB1); clear hB1)
          | (go_at_call 7; (with_reducible refine (HF1.out _ HS.out).mono ?_); rintro e w2 ⟨rfl, hB2⟩; replace HS := Lib.hid (HS.out.step hB2); clear hB2)
          | (go_at_call 7; (with_reducible refine (HFL.out _ HS.out.bel).mono ?_); rintro e w3 ⟨rfl, hB3⟩; replace HS := Lib.hid (HS.out.step hB3); clear hB3)
          | (go_at_call 8; (with_reducible refine (HRE2.out _ HS.out.bel).mono ?_); rintro e w4 ⟨rfl, hB4⟩; replace HS := Lib.hid (HS.out.step hB4); clear hB4))
        have g0 := (HS.out.bel.cell (p := ⟨ab, off + k * 3, none⟩) hab).trans C0.out
        have g1 := (HS.out.bel.cell (p := ⟨ab, off + k * 3 + 1, none⟩) hab).trans C1.out
        have g2 := (HS.out.bel.cell (p := ⟨ab, off + k * 3 + 2, none⟩) hab).trans C2.out
        have hrun := hrun0.out
        go_upto_region 12 with fail
        go_quiet (fail)
        go_wp2
        go_ret
        exact ⟨by first | rfl | simp [*], below_drewN' (HS.out.bel.alloc (Nat.le_of_lt HS.out.lt) _) _⟩
    · rcases HCASE.out with ⟨⟨f1, f2⟩, hE | ⟨hlt, c, hcc, hc47, hl47⟩⟩ | ⟨f1, hlt, hcc⟩
      · have hn : ¬ rp.size < path.size := by omega
        clear hE HCASE
        go_enter Tryd.func3, Tryd.ntmps3
        go_upto_region 10 with (first
          | (go_at_call 7; (with_reducible refine (HF0.out _ HS.out).mono ?_); rintro e w1 ⟨rfl, hB1⟩; replace HS := Lib.hid (HS.out.step hB1); clear hB1)
          | (go_at_call 7; (with_reducible refine (HF1.out _ HS.out).mono ?_); rintro e w2 ⟨rfl, hB2⟩; replace HS := Lib.hid (HS.out.step hB2); clear hB2)
          | (go_at_call 7; (with_reducible refine (HFL.out _ HS.out.bel).mono ?_); rintro e w3 ⟨rfl, hB3⟩; replace HS := Lib.hid (HS.out.step hB3); clear hB3)
          | (go_at_call 8; (with_reducible refine (HRE2.out _ HS.out.bel).mono ?_); rintro e w4 ⟨rfl, hB4⟩; replace HS := Lib.hid (HS.out.step hB4); clear hB4))
        have g0 := (HS.out.bel.cell (p := ⟨ab, off + k * 3, none⟩) hab).trans C0.out
        have g1 := (HS.out.bel.cell (p := ⟨ab, off + k * 3 + 1, none⟩) hab).trans C1.out
        have g2 := (HS.out.bel.cell (p := ⟨ab, off + k * 3 + 2, none⟩) hab).trans C2.out
        have hrun := hrun0.out
        go_upto_region 12 with fail
        go_quiet (fail)
        go_wp2
        go_ret
        exact ⟨by first | rfl | simp [*], below_drewN' (HS.out.bel.alloc (Nat.le_of_lt HS.out.lt) _) _⟩
      · have hix : ∀ W, (Instr.index 9 (.string path) (.int .i64 rp.size)).run Tryd.prog W = .ok (.int .u8 c.toNat) W := head_index path rp.size c hcc
        have hiy : ∀ W, (Instr.index 9 (.string rp) (.int .i64 ((rp.size : Int) - 1))).run Tryd.prog W = .ok (.int .u8 47) W := fun W => by
          have := head_index rp (rp.size - 1) 47 hl47 W
          rwa [show ((rp.size - 1 : Nat) : Int) = (rp.size : Int) - 1 by have := HX1.out; omega] at this
        have hc48 : ¬ (c.toNat : Int) = 47 := by simpa using hc47
        clear hcc hl47 HCASE
        go_enter Tryd.func3, Tryd.ntmps3
        go_upto_region 10 with (first
          | (go_at_call 7; (with_reducible refine (HF0.out _ HS.out).mono ?_); rintro e w1 ⟨rfl, hB1⟩; replace HS := Lib.hid (HS.out.step hB1); clear hB1)
          | (go_at_call 7; (with_reducible refine (HF1.out _ HS.out).mono ?_); rintro e w2 ⟨rfl, hB2⟩; replace HS := Lib.hid (HS.out.step hB2); clear hB2)
          | (go_at_call 7; (with_reducible refine (HFL.out _ HS.out.bel).mono ?_); rintro e w3 ⟨rfl, hB3⟩; replace HS := Lib.hid (HS.out.step hB3); clear hB3)
          | (go_at_call 8; (with_reducible refine (HRE2.out _ HS.out.bel).mono ?_); rintro e w4 ⟨rfl, hB4⟩; replace HS := Lib.hid (HS.out.step hB4); clear hB4))
        have g0 := (HS.out.bel.cell (p := ⟨ab, off + k * 3, none⟩) hab).trans C0.out
        have g1 := (HS.out.bel.cell (p := ⟨ab, off + k * 3 + 1, none⟩) hab).trans C1.out
        have g2 := (HS.out.bel.cell (p := ⟨ab, off + k * 3 + 2, none⟩) hab).trans C2.out
        have hrun := hrun0.out
        go_upto_region 12 with fail
        go_quiet (fail)
        go_wp2
        go_ret
        exact ⟨by first | rfl | simp [*], below_drewN' (HS.out.bel.alloc (Nat.le_of_lt HS.out.lt) _) _⟩
      · have hix : ∀ W, (Instr.index 9 (.string path) (.int .i64 rp.size)).run Tryd.prog W = .ok (.int .u8 47) W := head_index path rp.size 47 hcc
        clear hcc HCASE
        go_enter Tryd.func3, Tryd.ntmps3
        go_upto_region 10 with (first
          | (go_at_call 7; (with_reducible refine (HF0.out _ HS.out).mono ?_); rintro e w1 ⟨rfl, hB1⟩; replace HS := Lib.hid (HS.out.step hB1); clear hB1)
          | (go_at_call 7; (with_reducible refine (HF1.out _ HS.out).mono ?_); rintro e w2 ⟨rfl, hB2⟩; replace HS := Lib.hid (HS.out.step hB2); clear hB2)
          | (go_at_call 7; (with_reducible refine (HFL.out _ HS.out.bel).mono ?_); rintro e w3 ⟨rfl, hB3⟩; replace HS := Lib.hid (HS.out.step hB3); clear hB3)
          | (go_at_call 8; (with_reducible refine (HRE2.out _ HS.out.bel).mono ?_); rintro e w4 ⟨rfl, hB4⟩; replace HS := Lib.hid (HS.out.step hB4); clear hB4))
        have g0 := (HS.out.bel.cell (p := ⟨ab, off + k * 3, none⟩) hab).trans C0.out
        have g1 := (HS.out.bel.cell (p := ⟨ab, off + k * 3 + 1, none⟩) hab).trans C1.out
        have g2 := (HS.out.bel.cell (p := ⟨ab, off + k * 3 + 2, none⟩) hab).trans C2.out
        have hrun := hrun0.out
        go_upto_region 12 with fail
        go_quiet (fail)
        go_wp2
        go_ret
        exact ⟨by first | rfl | simp [*], below_drewN' (HS.out.bel.alloc (Nat.le_of_lt HS.out.lt) _) _⟩
  · have h1 := findE_bad h0
    have he : errV (findE l host path).2 = .iface 48 (.int .i64 (findE l host path).2) := by unfold errV; rw [if_neg h0]
    rw [he, h1] at HFL
    have H0 := Lib.hid h0
    have HRE2 := Lib.hid (fun (W : World) (hW : Below w.heap.size w W) => (HRE.out W hW).mono (R' := fun e w' => e = .returned (.tuple #[.string ⟨#[]⟩, .string ⟨#[]⟩, .iface 48 (.int .i64 (findE l host path).2)]) ∧ Below W.heap.size W w') (by
      rintro e w' ⟨hB, ⟨_, rfl⟩ | ⟨k, _, h, _⟩⟩
      · exact ⟨rfl, hB⟩
      · exact absurd (by rw [h]) H0.out))
    generalize (findE l host path).2 = k at *
    clear h0 h1 he HRE
    go_enter Tryd.func3, Tryd.ntmps3
    go_upto_region 9 with (first
      | (go_at_call 7; (with_reducible refine (HF0.out _ HS.out).mono ?_); rintro e w1 ⟨rfl, hB1⟩; replace HS := Lib.hid (HS.out.step hB1); clear hB1)
      | (go_at_call 7; (with_reducible refine (HF1.out _ HS.out).mono ?_); rintro e w2 ⟨rfl, hB2⟩; replace HS := Lib.hid (HS.out.step hB2); clear hB2)
      | (go_at_call 7; (with_reducible refine (HFL.out _ HS.out.bel).mono ?_); rintro e w3 ⟨rfl, hB3⟩; replace HS := Lib.hid (HS.out.step hB3); clear hB3)
      | (go_at_call 8; (with_reducible refine (HRE2.out _ HS.out.bel).mono ?_); rintro e w4 ⟨rfl, hB4⟩; replace HS := Lib.hid (HS.out.step hB4); clear hB4))
    go_quiet (fail)
    go_wp2
    go_ret
    exact ⟨rfl, below_drewN' HS.out.bel _⟩
end Go.Proofs.YtijbploeleaabaaDoor.WalkRouteWhole
