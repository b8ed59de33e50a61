/-
  The reference's words on routes: Route, Routes.
  Conditions: the lengths.
-/
import Derived.Test.YteadmakhcpjpnaaDoorRoutes
import Derived.Test.YteadmakhcpjpnaaDoorTokRef
import Derived.Deep.QuietTactic
import Derived.BigQuiet
namespace Go.Proofs.YteadmakhcpjpnaaDoor.RouteC
open Go.RowKit Go.Shelf RowsK LineC
set_option linter.unusedVariables false
set_option linter.unusedSimpArgs false

theorem any_take {l : List RT} {p : RT → Bool} {k i : Nat} (h : (l.take k).any p = true) (hk : k ≤ i) : (l.take i).any p = true := by
  rw [List.any_eq_true] at h ⊢
  obtain ⟨x, hx, hp⟩ := h
  exact ⟨x, (List.take_sublist_take_left hk).subset hx, hp⟩
theorem hp47 (l : List UInt8) (c : UInt8) (h : l[0]? = some c) : ((c.toNat : Int) != 47) = !Lib.hasPrefix l [47] := by
  rcases l with _ | ⟨a, t⟩
  · cases h
  · obtain rfl : a = c := by simpa using h
    unfold Lib.hasPrefix
    rw [List.isPrefixOf_cons_cons]
    simp only [List.isPrefixOf_nil_left, Bool.and_true]
    by_cases h1 : a = 47
    · subst h1; rfl
    · have h2 : ¬ ((a.toNat : Int) = 47) := fun e => h1 (UInt8.toNat_inj.1 (by show a.toNat = 47; omega))
      rw [bne_iff_ne.2 h2, beq_eq_false_iff_ne.2 (fun e => h1 e.symm)]; rfl
set_option maxRecDepth 100000 in
set_option maxHeartbeats 8000000 in
theorem rroute_any (v : Value) (l : List RT) (w : World) (hl : At encR w v l) (hsz : ∀ r ∈ l, r.host.size ≤ maxLen ∧ r.path.size ≤ maxLen ∧ r.dest.size ≤ maxLen) (i : Nat) (hi : i < l.length) :
    Calls Tryd.prog 20 #[v, .int .i64 i] w fun e w' => e = .returned (.int .i64 (routeE l i l[i])) ∧ Below w.heap.size w w' := by
  obtain ⟨a, cap, rfl, hcap, hcap2, _, hel⟩ := hl
  have hbo : ∃ b off, a = some ⟨b, off, none⟩ ∧ b < w.heap.size ∧ ∀ k (h : k < l.length), ∀ j, j < 3 → w.cell? ⟨b, off + (k * 3 + j), none⟩ = (encR.enc l[k])[j]? := by
    obtain ⟨b, off, rfl, hb, _⟩ := hel 0 (by omega)
    refine ⟨b, off, rfl, hb, fun k hk j hj => ?_⟩
    obtain ⟨b', off', e, _, h⟩ := hel k hk
    simp only [Option.some.injEq, Addr.mk.injEq, and_true] at e
    obtain ⟨rfl, rfl⟩ := e
    exact h j hj
  obtain ⟨b, off, rfl, hb, hc⟩ := hbo
  have hn : l.length ≤ 9223372036854775807 := by omega
  have c0 := hc i hi 0 (by decide)
  have c1 := hc i hi 1 (by decide)
  have c2 := hc i hi 2 (by decide)
  change _ = some (Value.string l[i].host) at c0
  change _ = some (Value.string l[i].path) at c1
  change _ = some (Value.string l[i].dest) at c2
  rw [← Nat.add_assoc] at c0 c1 c2
  rw [Nat.add_zero] at c0
  have hi0 : (0 : Int) ≤ (i : Int) := by omega
  have hi1 : (i : Int) < (l.length : Int) := by omega
  have HC := Lib.hid hc
  have hm := hsz l[i] (List.getElem_mem hi)
  clear hc hel
  generalize hr : l[i] = r at *
  obtain ⟨rh, rp, rt⟩ := r
  simp only at c0 c1 c2 hm
  have hB0 := (Below.refl w.heap.size w).alloc (Nat.le_refl _) (.cells #[.string rh, .string rp, .string rt] 28)
  have HWH := Lib.hid (rword_any rh hm.1)
  have HWP := Lib.hid (rword_any rp hm.2.1)
  have HWT := Lib.hid (rtoken_any rt hm.2.2)
  obtain ⟨RR, hRR⟩ : ∃ R, routeE l i ⟨rh, rp, rt⟩ = R := ⟨_, rfl⟩
  rw [hRR]
  unfold routeE badR at hRR
  simp only at hRR
  have HR := Lib.hid hRR
  have HS : Hid (Held w (w.alloc (.cells #[.string rh, .string rp, .string rt] 28)) rh rp rt) := (⟨hB0, by simp, by simp, by simp, by simp⟩ : Held _ _ _ _ _)
  obtain ⟨b4, hb4⟩ : ∃ b, wordL rp.data.toList = b := ⟨_, rfl⟩
  have hpc : b4 = true → ∃ c, rp.data.toList[0]? = some c := fun h => by
    rw [h] at hb4
    unfold wordL at hb4
    rcases hl : rp.data.toList with _ | ⟨x, t⟩
    · rw [hl] at hb4; cases hb4
    · exact ⟨x, rfl⟩
  rw [hb4] at HR HWP
  generalize hb2 : wordL rh.data.toList = b2 at *
  generalize hb5 : tokL rt.data.toList = b5 at *
  generalize hb3 : Lib.hasPrefix rp.data.toList [47] = b3 at *
  have HP3 := Lib.hid hb3
  clear hr hB0 hRR hb4 hm hb2 hb5 hb3
  rcases b4 with _ | _
  · clear hpc HP3
    generalize rh.toList.isEmpty = e1 at *
    generalize (rh.toList == [42]) = e2 at *
    have hrr : RR = 2 := by rw [← HR.out]; simp
    subst hrr
    clear HR HC
    go_enter Tryd.func20, Tryd.ntmps20
    go_wp2_with (first
      | (go_at_call 34; (with_reducible refine (HWH.out _).mono ?_); rintro e wA ⟨rfl, rfl⟩)
      | (go_at_call 34; (with_reducible refine (HWP.out _).mono ?_); rintro e wB ⟨rfl, rfl⟩)
      | (go_at_call 35; (with_reducible refine (HWT.out _).mono ?_); rintro e wT ⟨rfl, rfl⟩))
    all_goals go_ret
    all_goals exact ⟨rfl, HS.out.bel⟩
  · obtain ⟨c, hc⟩ := hpc rfl
    have h47 := hp47 _ c hc
    rw [HP3.out] at h47
    have hix := sidx rp 0 0 rfl c hc
    have hps : (0 : Int) < (rp.size : Int) := by
      have := (List.getElem?_eq_some_iff.1 hc).1
      rw [← size_list] at this; omega
    clear hc hpc HP3
    rcases b3 with _ | _
    · rw [Bool.not_false] at h47
      generalize rh.toList.isEmpty = e1 at *
      generalize (rh.toList == [42]) = e2 at *
      have hrr : RR = 2 := by rw [← HR.out]; simp
      subst hrr
      clear HR HC
      go_enter Tryd.func20, Tryd.ntmps20
      go_wp2_with (first
        | (go_at_call 34; (with_reducible refine (HWH.out _).mono ?_); rintro e wA ⟨rfl, rfl⟩)
        | (go_at_call 34; (with_reducible refine (HWP.out _).mono ?_); rintro e wB ⟨rfl, rfl⟩)
        | (go_at_call 35; (with_reducible refine (HWT.out _).mono ?_); rintro e wT ⟨rfl, rfl⟩))
      all_goals go_ret
      all_goals exact ⟨rfl, HS.out.bel⟩
    · rw [Bool.not_true] at h47
      rcases b5 with _ | _
      · generalize rh.toList.isEmpty = e1 at *
        generalize (rh.toList == [42]) = e2 at *
        have hrr : RR = 2 := by rw [← HR.out]; simp
        subst hrr
        clear HR HC
        go_enter Tryd.func20, Tryd.ntmps20
        go_wp2_with (first
          | (go_at_call 34; (with_reducible refine (HWH.out _).mono ?_); rintro e wA ⟨rfl, rfl⟩)
          | (go_at_call 34; (with_reducible refine (HWP.out _).mono ?_); rintro e wB ⟨rfl, rfl⟩)
          | (go_at_call 35; (with_reducible refine (HWT.out _).mono ?_); rintro e wT ⟨rfl, rfl⟩))
        all_goals go_ret
        all_goals exact ⟨rfl, HS.out.bel⟩
      · rcases e1 : rh.toList.isEmpty with _ | _
        · rw [e1] at HR
          rcases b2 with _ | _
          · generalize (rh.toList == [42]) = e2 at *
            have hrr : RR = 2 := by rw [← HR.out]; simp
            subst hrr
            clear HR HC
            go_enter Tryd.func20, Tryd.ntmps20
            go_wp2_with (first
              | (go_at_call 34; (with_reducible refine (HWH.out _).mono ?_); rintro e wA ⟨rfl, rfl⟩)
              | (go_at_call 34; (with_reducible refine (HWP.out _).mono ?_); rintro e wB ⟨rfl, rfl⟩)
              | (go_at_call 35; (with_reducible refine (HWT.out _).mono ?_); rintro e wT ⟨rfl, rfl⟩))
            all_goals go_ret
            all_goals exact ⟨rfl, HS.out.bel⟩
          · rcases e2 : (rh.toList == [42]) with _ | _
            · rw [e2] at HR
              simp only [Bool.not_true, Bool.not_false, Bool.or_false, Bool.false_or, Bool.false_and, Bool.true_and, Bool.or_self] at HR
              go_enter Tryd.func20, Tryd.ntmps20
              go_wp2_with (first
                | (go_at_call 34; (with_reducible refine (HWH.out _).mono ?_); rintro e wA ⟨rfl, rfl⟩)
                | (go_at_call 34; (with_reducible refine (HWP.out _).mono ?_); rintro e wB ⟨rfl, rfl⟩)
                | (go_at_call 35; (with_reducible refine (HWT.out _).mono ?_); rintro e wT ⟨rfl, rfl⟩))
              go_loopw [9] (fun iv wi => ∃ (k : Nat), iv = .int .i64 k ∧ k ≤ i ∧ Hid ((l.take k).any (sameR ⟨rh, rp, rt⟩) = false) ∧ Hid (Held w wi rh rp rt)) (fun iv _ => i - (intOf iv).toNat)
              case atStart => exact ⟨0, rfl, by omega, Lib.hid rfl, HS⟩
              case round =>
                obtain ⟨k, rfl, hk, HN, HH⟩ := hrel
                have g0 := HH.out.c0
                have g1 := HH.out.c1
                have hB := HH.out.bel
                by_cases hlt : k < i
                · have hkl : k < l.length := by omega
                  have d0 := (hB.cell (p := ⟨b, off + (k * 3 + 0), none⟩) hb).trans (HC.out k hkl 0 (by decide))
                  have d1 := (hB.cell (p := ⟨b, off + (k * 3 + 1), none⟩) hb).trans (HC.out k hkl 1 (by decide))
                  change _ = some (Value.string l[k].host) at d0
                  change _ = some (Value.string l[k].path) at d1
                  rw [← Nat.add_assoc] at d0 d1
                  rw [Nat.add_zero] at d0
                  have hk0 : (0 : Int) ≤ (k : Int) := by omega
                  have hk1 : (k : Int) < (l.length : Int) := by omega
                  have hk2 : (k : Int) < (i : Int) := by omega
                  have hsn : (l.take (k + 1)).any (sameR ⟨rh, rp, rt⟩) = sameR ⟨rh, rp, rt⟩ l[k] := by rw [List.take_succ_eq_append_getElem hkl, List.any_append, HN.out]; simp
                  have hss : sameR ⟨rh, rp, rt⟩ l[k] = (l[k].host.toList == rh.toList && l[k].path.toList == rp.toList) := rfl
                  rw [hss] at hsn
                  have HSN := Lib.hid hsn
                  have hany : (l.take (k + 1)).any (sameR ⟨rh, rp, rt⟩) = true → RR = 7 := fun h => by
                    rw [← HR.out, if_neg (by simp), if_pos (any_take h (by omega))]
                  have HANY := Lib.hid hany
                  generalize l[k] = x at *
                  obtain ⟨xh, xp, xt⟩ := x
                  simp only at d0 d1 HSN
                  clear hsn hss hany hB hlt hk
                  rcases e0 : (xh.toList == rh.toList) with _ | _
                  · rw [e0] at HSN
                    go_wp2
                    go_quiet (fail)
                    go_wp2
                    case roundEnd => exact ⟨⟨k + 1, rfl, by omega, HSN, Lib.hid (HH.out.step (below_drewN' (Below.refl _ _) _))⟩, (by show i - ((k : Int) + 1).toNat < i - (k : Int).toNat; omega)⟩
                  · rw [e0] at HSN
                    rcases e1 : (xp.toList == rp.toList) with _ | _
                    · rw [e1] at HSN
                      go_wp2
                      go_quiet (fail)
                      go_wp2
                      case roundEnd => exact ⟨⟨k + 1, rfl, by omega, HSN, Lib.hid (HH.out.step (below_drewN' (Below.refl _ _) _))⟩, (by show i - ((k : Int) + 1).toNat < i - (k : Int).toNat; omega)⟩
                    · rw [e1] at HSN
                      have hrr : RR = 7 := HANY.out HSN.out
                      subst hrr
                      go_wp2
                      go_quiet (fail)
                      go_wp2
                      go_ret
                      exact ⟨rfl, (HH.out.step (below_drewN' (Below.refl _ _) _)).bel⟩
                · obtain rfl : i = k := by omega
                  have hrr : RR = 0 := by rw [← HR.out, if_neg (by simp), HN.out]; rfl
                  subst hrr
                  clear hB
                  go_wp2
                  go_ret
                  exact ⟨rfl, HH.out.bel⟩
            · rw [e2] at HR
              have hrr : RR = 2 := by rw [← HR.out]; simp
              subst hrr
              clear HR HC
              go_enter Tryd.func20, Tryd.ntmps20
              go_wp2_with (first
                | (go_at_call 34; (with_reducible refine (HWH.out _).mono ?_); rintro e wA ⟨rfl, rfl⟩)
                | (go_at_call 34; (with_reducible refine (HWP.out _).mono ?_); rintro e wB ⟨rfl, rfl⟩)
                | (go_at_call 35; (with_reducible refine (HWT.out _).mono ?_); rintro e wT ⟨rfl, rfl⟩))
              all_goals go_ret
              all_goals exact ⟨rfl, HS.out.bel⟩
        · rw [e1] at HR
          simp only [Bool.not_true, Bool.not_false, Bool.or_false, Bool.false_or, Bool.false_and, Bool.true_and, Bool.or_self] at HR
          go_enter Tryd.func20, Tryd.ntmps20
          go_wp2_with (first
            | (go_at_call 34; (with_reducible refine (HWH.out _).mono ?_); rintro e wA ⟨rfl, rfl⟩)
            | (go_at_call 34; (with_reducible refine (HWP.out _).mono ?_); rintro e wB ⟨rfl, rfl⟩)
            | (go_at_call 35; (with_reducible refine (HWT.out _).mono ?_); rintro e wT ⟨rfl, rfl⟩))
          go_loopw [9] (fun iv wi => ∃ (k : Nat), iv = .int .i64 k ∧ k ≤ i ∧ Hid ((l.take k).any (sameR ⟨rh, rp, rt⟩) = false) ∧ Hid (Held w wi rh rp rt)) (fun iv _ => i - (intOf iv).toNat)
          case atStart => exact ⟨0, rfl, by omega, Lib.hid rfl, HS⟩
          case round =>
            obtain ⟨k, rfl, hk, HN, HH⟩ := hrel
            have g0 := HH.out.c0
            have g1 := HH.out.c1
            have hB := HH.out.bel
            by_cases hlt : k < i
            · have hkl : k < l.length := by omega
              have d0 := (hB.cell (p := ⟨b, off + (k * 3 + 0), none⟩) hb).trans (HC.out k hkl 0 (by decide))
              have d1 := (hB.cell (p := ⟨b, off + (k * 3 + 1), none⟩) hb).trans (HC.out k hkl 1 (by decide))
              change _ = some (Value.string l[k].host) at d0
              change _ = some (Value.string l[k].path) at d1
              rw [← Nat.add_assoc] at d0 d1
              rw [Nat.add_zero] at d0
              have hk0 : (0 : Int) ≤ (k : Int) := by omega
              have hk1 : (k : Int) < (l.length : Int) := by omega
              have hk2 : (k : Int) < (i : Int) := by omega
              have hsn : (l.take (k + 1)).any (sameR ⟨rh, rp, rt⟩) = sameR ⟨rh, rp, rt⟩ l[k] := by rw [List.take_succ_eq_append_getElem hkl, List.any_append, HN.out]; simp
              have hss : sameR ⟨rh, rp, rt⟩ l[k] = (l[k].host.toList == rh.toList && l[k].path.toList == rp.toList) := rfl
              rw [hss] at hsn
              have HSN := Lib.hid hsn
              have hany : (l.take (k + 1)).any (sameR ⟨rh, rp, rt⟩) = true → RR = 7 := fun h => by
                rw [← HR.out, if_neg (by simp), if_pos (any_take h (by omega))]
              have HANY := Lib.hid hany
              generalize l[k] = x at *
              obtain ⟨xh, xp, xt⟩ := x
              simp only at d0 d1 HSN
              clear hsn hss hany hB hlt hk
              rcases e0 : (xh.toList == rh.toList) with _ | _
              · rw [e0] at HSN
                go_wp2
                go_quiet (fail)
                go_wp2
                case roundEnd => exact ⟨⟨k + 1, rfl, by omega, HSN, Lib.hid (HH.out.step (below_drewN' (Below.refl _ _) _))⟩, (by show i - ((k : Int) + 1).toNat < i - (k : Int).toNat; omega)⟩
              · rw [e0] at HSN
                rcases e1 : (xp.toList == rp.toList) with _ | _
                · rw [e1] at HSN
                  go_wp2
                  go_quiet (fail)
                  go_wp2
                  case roundEnd => exact ⟨⟨k + 1, rfl, by omega, HSN, Lib.hid (HH.out.step (below_drewN' (Below.refl _ _) _))⟩, (by show i - ((k : Int) + 1).toNat < i - (k : Int).toNat; omega)⟩
                · rw [e1] at HSN
                  have hrr : RR = 7 := HANY.out HSN.out
                  subst hrr
                  go_wp2
                  go_quiet (fail)
                  go_wp2
                  go_ret
                  exact ⟨rfl, (HH.out.step (below_drewN' (Below.refl _ _) _)).bel⟩
            · obtain rfl : i = k := by omega
              have hrr : RR = 0 := by rw [← HR.out, if_neg (by simp), HN.out]; rfl
              subst hrr
              clear hB
              go_wp2
              go_ret
              exact ⟨rfl, HH.out.bel⟩
end Go.Proofs.YteadmakhcpjpnaaDoor.RouteC
