/-
  The reference's row of those who may want: Want, Sent.
  Conditions: where its blocks lie.
-/
import Derived.Test.YtfgplghjgjnggaaDoorPickRefB
import Derived.Deep.Cut
import Derived.Deep.CutRange
import Derived.Deep.QuietTactic
import Derived.BigQuiet
namespace Go.Proofs.YtfgplghjgjnggaaDoor.PickR
open Go.RowKit MapsL ModL RowsK PickC
set_option linter.unusedSimpArgs false
set_option linter.unusedVariables false

theorem RefP.store {w : World} {q g n cap : Nat} {l : List Ent} (h : RefP w q (.slice (some ⟨g, 0, none⟩) n cap) l) (i j : Nat) (hi : i < l.length) (hj : j < 4) (u : Value) (y : Ent) (hy : E.enc y = (E.enc l[i]).set j u) :
    RefP (w.setCell ⟨g, i * 4 + j, none⟩ u) q (.slice (some ⟨g, 0, none⟩) n cap) (l.set i y) := by
  have hg := (h.own.lt g rfl).1
  exact ⟨(World.cell?_setCell_other _ _ _ _ (fun e => by simp only [Addr.mk.injEq] at e; omega)).trans h.c0, by simp [go_sem, h.f0], own_store h.own i j hi hj u y hy⟩
theorem RefP.heap {w w' : World} {q : Nat} {v : Value} {l : List Ent} (h : RefP w q v l) (hh : w'.heap = w.heap) : RefP w' q v l :=
  ⟨(World.cell?_of_block (a := ⟨q, 0, none⟩) (by rw [hh])).trans h.c0, (World.frozen?_of_block (a := ⟨q, 0, none⟩) (by rw [hh])).trans h.f0, h.own.of_block fun k _ => by rw [hh]⟩
theorem RefP.frozen {w : World} {q g n cap : Nat} {l : List Ent} (h : RefP w q (.slice (some ⟨g, 0, none⟩) n cap) l) (i : Nat) : w.frozen? ⟨g, i, none⟩ = false := by
  obtain ⟨a, c, e, _, _, _, h4⟩ := h.own.slice
  simp only [Value.slice.injEq] at e
  obtain ⟨rfl, _, _⟩ := e
  obtain ⟨g', cur, e2, _, _, hh, _⟩ := h4 _ rfl
  simp only [Addr.mk.injEq, and_true] at e2
  subst e2
  simp [World.frozen?, hh]
/-- An entry's cells. -/
theorem RefP.entry {w : World} {q : Nat} {v : Value} {l : List Ent} (h : RefP w q v l) {n : Nat} {x : Ent} (hn : l[n]? = some x) : ∃ g cap, v = .slice (some ⟨g, 0, none⟩) l.length cap ∧ q + 1 ≤ g ∧ g < w.heap.size ∧ n < l.length ∧
    ∀ m y, l[m]? = some y → w.cell? ⟨g, m * 4, none⟩ = some (.int .i64 y.id) ∧ w.cell? ⟨g, m * 4 + 1, none⟩ = some (.int .i64 y.wt) ∧ w.cell? ⟨g, m * 4 + 2, none⟩ = some (.int .i64 y.sc) ∧ w.cell? ⟨g, m * 4 + 3, none⟩ = some (.bool y.wants) := by
  obtain ⟨a, cap, rfl, h1, h2, hel⟩ := h.open
  obtain ⟨hnl, _⟩ := List.getElem?_eq_some_iff.1 hn
  obtain ⟨g, rfl, hg, hg2, _⟩ := hel n hnl
  refine ⟨g, cap, rfl, hg, hg2, hnl, fun m y hm => ?_⟩
  obtain ⟨hml, hme⟩ := List.getElem?_eq_some_iff.1 hm
  obtain ⟨g', e, _, _, z0, z1, z2, z3⟩ := hel m hml
  simp only [Option.some.injEq, Addr.mk.injEq, and_true] at e
  subst e
  rw [hme] at z0 z1 z2 z3
  exact ⟨z0, z1, z2, z3⟩
theorem at_one {w : World} {q : Nat} {v : Value} {l : List Ent} (h : RefP w q v l) (id : Int) (hid : -9223372036854775808 ≤ id ∧ id ≤ 9223372036854775807) (n : Nat) (hU : ∀ m y, l[m]? = some y → y.id = id → m = n) (x : Ent) (hn : l[n]? = some x) (hx : x.id = id) :
    Calls Tryd.prog 27 #[.pointer (some ⟨q, 0, none⟩), .int .i64 id] w fun e w' => e = .returned (.int .i64 n) ∧ w = w' := by
  refine (at_any h id hid).mono ?_
  rintro e w' ⟨rfl, ⟨rfl, hno⟩ | ⟨m, rfl, y, hm, hy⟩⟩
  · exact absurd hx (hno x (List.mem_of_getElem? hn))
  · obtain rfl := hU m y hm hy
    exact ⟨rfl, rfl⟩
theorem at_none {w : World} {q : Nat} {v : Value} {l : List Ent} (h : RefP w q v l) (id : Int) (hid : -9223372036854775808 ≤ id ∧ id ≤ 9223372036854775807) (hno : ∀ x ∈ l, x.id ≠ id) :
    Calls Tryd.prog 27 #[.pointer (some ⟨q, 0, none⟩), .int .i64 id] w fun e w' => e = .returned (.int .i64 (-1)) ∧ w = w' := by
  refine (at_any h id hid).mono ?_
  rintro e w' ⟨rfl, ⟨rfl, _⟩ | ⟨m, rfl, y, hm, hy⟩⟩
  · exact ⟨rfl, rfl⟩
  · exact absurd hy (hno y (List.mem_of_getElem? hm))
theorem rwant_none {w : World} {q : Nat} {v : Value} {l : List Ent} (h : RefP w q v l) (id : Int) (yes : Bool) (hid : -9223372036854775808 ≤ id ∧ id ≤ 9223372036854775807) (hno : ∀ x ∈ l, x.id ≠ id) :
    Calls Tryd.prog 12 #[.pointer (some ⟨q, 0, none⟩), .int .i64 id, .bool yes] w fun e w' => e = .returned (.int .i64 5) ∧ w = w' := by
  have HA := Lib.hid (at_none h id hid hno)
  clear h
  go_enter Tryd.func12, Tryd.ntmps12
  go_wp2_with (go_at_call 27; (with_reducible refine HA.out.mono ?_); rintro e w1 ⟨rfl, rfl⟩)
  go_ret
  exact ⟨rfl, rfl⟩
set_option maxRecDepth 100000 in
set_option maxHeartbeats 4000000 in
theorem rwant_some {w : World} {q : Nat} {v : Value} {l : List Ent} (h : RefP w q v l) (id : Int) (yes : Bool) (hid : -9223372036854775808 ≤ id ∧ id ≤ 9223372036854775807) (n : Nat) (hU : ∀ m y, l[m]? = some y → y.id = id → m = n) (x : Ent) (hn : l[n]? = some x) (hx : x.id = id) :
    Calls Tryd.prog 12 #[.pointer (some ⟨q, 0, none⟩), .int .i64 id, .bool yes] w fun e w' => ∃ k, e = .returned (.int .i64 0) ∧ Lead l k ∧ RefP w' q v (l.set n (wantE (decide (0 ≤ k)) (scAt l k) yes x)) ∧ Mod (fun b => v.ownBlock = some b) w w' := by
  have HA := Lib.hid (at_one h id hid n hU x hn hx)
  have HLE := Lib.hid (least_ref h)
  have HR := Lib.hid h
  obtain ⟨g, cap, rfl, hg, hg2, hnl, hent⟩ := h.entry hn
  obtain ⟨L, hL⟩ : ∃ L, l.length = L := ⟨_, rfl⟩
  rw [hL] at hnl
  have HL := Lib.hid hL
  have hnL : (n : Int) < (L : Int) := by omega
  have hn0 : (0 : Int) ≤ (n : Int) := by omega
  have hn00 : ¬ (n : Int) < 0 := by omega
  have HN := Lib.hid hn
  have HEN := Lib.hid hent
  clear h hL hU hn hx hent
  go_enter Tryd.func12, Tryd.ntmps12
  go_upto_region 5 with (first
    | (go_at_call 27; (with_reducible refine HA.out.mono ?_); rintro e w1 ⟨rfl, rfl⟩)
    | (go_at_call 16; (with_reducible refine HLE.out.mono ?_); rintro e w1 ⟨k, rfl, hK, hB1⟩))
  have HR1 := Lib.hid (HR.out.below hB1)
  have hc1 := HR1.out.c0
  rw [HL.out] at hc1
  have HK := Lib.hid hK
  have hz3 := (hB1.cell (p := ⟨g, n * 4 + 3, none⟩) hg2).trans (HEN.out n x HN.out).2.2.2
  have hz2 := (hB1.cell (p := ⟨g, n * 4 + 2, none⟩) hg2).trans (HEN.out n x HN.out).2.2.1
  obtain ⟨T, hT⟩ : ∃ T : Bool, (yes && !x.wants && decide (0 ≤ k) && decide (x.sc < scAt l k)) = T := ⟨_, rfl⟩
  have HT := Lib.hid hT
  go_cut [50] from 16 (fun c wx => c = .bool T ∧ ∃ nq, wx = w1.drewN nq)
  case first =>
    cases yes with
    | false =>
      have hTT : T = false := by rw [← hT]; rfl
      subst hTT
      go_quiet (fail)
      go_wp2
      go_meet
      exact ⟨rfl, _, rfl⟩
    | true =>
      cases hw : x.wants with
      | true =>
        have hTT : T = false := by rw [← hT, hw]; rfl
        subst hTT
        rw [hw] at hz3
        go_quiet (fail)
        go_wp2
        go_meet
        exact ⟨rfl, _, rfl⟩
      | false =>
        rw [hw] at hz3
        rcases hK with ⟨rfl, _⟩ | ⟨m, y, rfl, hm, _, _⟩
        · have hTT : T = false := by rw [← hT, hw]; rfl
          subst hTT
          go_quiet (fail)
          go_wp2
          go_meet
          exact ⟨rfl, _, rfl⟩
        · have hy2 := (hB1.cell (p := ⟨g, m * 4 + 2, none⟩) hg2).trans (HEN.out m y hm).2.2.1
          have hml : (m : Int) < (L : Int) := by have := (List.getElem?_eq_some_iff.1 hm).1; rw [HL.out] at this; omega
          have hm0 : (0 : Int) ≤ (m : Int) := by omega
          rw [scAt_some hm, hw] at hT
          obtain ⟨ys, hys⟩ : ∃ z, y.sc = z := ⟨_, rfl⟩
          obtain ⟨xs, hxs⟩ : ∃ z, x.sc = z := ⟨_, rfl⟩
          rw [hys] at hy2 hT
          rw [hxs] at hz2 hT
          clear hys hxs
          by_cases hlt : xs < ys
          · have hTT : T = true := by rw [← hT]; simp [hlt]
            subst hTT
            clear hT
            go_quiet (fail)
            go_wp2
            go_meet
            exact ⟨rfl, _, rfl⟩
          · have hTT : T = false := by rw [← hT]; simp [hlt]
            subst hTT
            clear hT
            go_quiet (fail)
            go_wp2
            go_meet
            exact ⟨rfl, _, rfl⟩
  case rest =>
    obtain ⟨rfl, nq, rfl⟩ := hcut
    have HR2 : Hid (RefP (w1.drewN nq) q (.slice (some ⟨g, 0, none⟩) l.length cap) l) := HR1.out.heap rfl
    have hc2 := HR2.out.c0
    rw [HL.out] at hc2
    have HB2 : Hid (Below w.heap.size w (w1.drewN nq)) := below_drewN hB1 nq
    have hln : ∀ h, l[n]'h = x := fun h => (List.getElem?_eq_some_iff.1 HN.out).2
    have hnl2 : n < l.length := by rw [HL.out]; exact hnl
    have hMod : ∀ W : World, Mod (fun b => some g = some b) (w1.drewN nq) W → Mod (fun b => (Value.slice (some ⟨g, 0, none⟩) l.length cap).ownBlock = some b) w W := fun W h => (Mod.ofBelow HB2.out (fun k hk hk2 => by omega)).andThen h (fun i _ hi => hi)
    have HMo := Lib.hid hMod
    have hf3 := HR2.out.frozen (n * 4 + 3)
    have hz3' : (w1.drewN nq).cell? ⟨g, n * 4 + 3, none⟩ = some (.bool x.wants) := hz3
    have HK2 := Lib.hid HK.out
    have hk3 : k = -1 ∨ ∃ m : Nat, k = m := by
      rcases HK.out with ⟨h, _⟩ | ⟨m, _, h, _⟩
      · exact .inl h
      · exact .inr ⟨m, h⟩
    have HHLN := Lib.hid hln
    clear hMod hz3 hz2 hc1 hln
    cases T with
    | false =>
      have hsc : wantSc x (decide (0 ≤ k)) (scAt l k) yes = x.sc := by
        have h := HT.out
        unfold wantSc
        by_cases h1 : (decide (0 ≤ k) && yes && !x.wants) = true
        · rw [if_pos h1]
          have h2 : ¬ x.sc < scAt l k := by
            intro h2
            simp only [Bool.and_eq_true] at h1
            simp [h1.1.1, h1.1.2, h2] at h
            simp_all
          omega
        · rw [if_neg h1]
      have HSC := Lib.hid hsc
      clear hsc hk3
      generalize w1.drewN nq = w2 at *
      go_wp2
      go_ret
      refine ⟨k, rfl, HK2.out, ?_, HMo.out _ ((Mod.refl (fun b => some g = some b) _).setCell (fun _ => rfl) _)⟩
      have h := HR2.out.store n 3 hnl2 (by decide) (.bool yes) (wantE (decide (0 ≤ k)) (scAt l k) yes x) (by rw [HHLN.out]; simp only [E, wantE, HSC.out]; rfl)
      exact h
    | true =>
      have hTt := HT.out
      simp only [Bool.and_eq_true, decide_eq_true_eq] at hTt
      obtain ⟨⟨⟨hy1, hy2⟩, hy3⟩, hy4⟩ := hTt
      obtain ⟨m, rfl⟩ : ∃ m : Nat, k = m := by
        rcases hk3 with h | h
        · omega
        · exact h
      obtain ⟨y, hm⟩ : ∃ y, l[m]? = some y := by
        rcases HK2.out with ⟨h, _⟩ | ⟨m', y, h, hm, _⟩
        · omega
        · obtain rfl : m = m' := by omega
          exact ⟨y, hm⟩
      rw [scAt_some hm] at hy4
      have hyc := (hB1.cell (p := ⟨g, m * 4 + 2, none⟩) hg2).trans (HEN.out m y hm).2.2.1
      have hyc' : (w1.drewN nq).cell? ⟨g, m * 4 + 2, none⟩ = some (.int .i64 y.sc) := hyc
      have hxc' : (w1.drewN nq).cell? ⟨g, n * 4 + 2, none⟩ = some (.int .i64 x.sc) := (hB1.cell (p := ⟨g, n * 4 + 2, none⟩) hg2).trans (HEN.out n x HN.out).2.2.1
      have hml : (m : Int) < (L : Int) := by have := (List.getElem?_eq_some_iff.1 hm).1; rw [HL.out] at this; omega
      have hm0 : (0 : Int) ≤ (m : Int) := by omega
      have hf2 := HR2.out.frozen (n * 4 + 2)
      have hsc : wantSc x (decide (0 ≤ (m : Int))) (scAt l m) yes = y.sc := by
        unfold wantSc
        rw [scAt_some hm, if_pos (by simp [hy1, hy2])]
        · omega
      have HSC := Lib.hid hsc
      have HST := Lib.hid (fun z2 => HR2.out.store n 2 hnl2 (by decide) (.int .i64 z2) { x with sc := z2 } (by rw [HHLN.out]; rfl))
      clear hsc hy1 hy2 hy3 hm hyc hk3
      generalize w1.drewN nq = w2 at *
      go_upto_region 6 with fail
      go_still_tail 15, (by kernel_rfl)
      change wpList _ _ _ _ _ w2.drew
      have HR3 : Hid (RefP w2.drew q (.slice (some ⟨g, 0, none⟩) l.length cap) l) := HR2.out.heap rfl
      have hc3 : w2.drew.cell? ⟨q, 0, none⟩ = some (.slice (some ⟨g, 0, none⟩) L cap) := hc2
      have hx3 : w2.drew.cell? ⟨g, n * 4 + 2, none⟩ = some (.int .i64 x.sc) := hxc'
      have hz3 : w2.drew.cell? ⟨g, n * 4 + 3, none⟩ = some (.bool x.wants) := hz3'
      have hf4 : w2.drew.frozen? ⟨g, n * 4 + 2, none⟩ = false := hf2
      have hf5 : w2.drew.frozen? ⟨g, n * 4 + 3, none⟩ = false := hf3
      have HMd : Hid (Mod (fun b => some g = some b) w2 w2.drew) := (Mod.refl (fun b => some g = some b) w2).drew
      generalize w2.drew = w3 at *
      go_upto_region 7 with fail
      have HR4 : Hid (RefP (w3.setCell ⟨g, n * 4 + 2, none⟩ (.int .i64 y.sc)) q (.slice (some ⟨g, 0, none⟩) l.length cap) (l.set n { x with sc := y.sc })) := HR3.out.store n 2 hnl2 (by decide) (.int .i64 y.sc) { x with sc := y.sc } (by rw [HHLN.out]; rfl)
      have hc5 := HR4.out.c0
      rw [HL.out] at hc5
      have hz5 : (w3.setCell ⟨g, n * 4 + 2, none⟩ (.int .i64 y.sc)).cell? ⟨g, n * 4 + 3, none⟩ = some (.bool x.wants) := (World.cell?_setCell_other _ _ _ _ (by simp)).trans hz3
      have hf6 : (w3.setCell ⟨g, n * 4 + 2, none⟩ (.int .i64 y.sc)).frozen? ⟨g, n * 4 + 3, none⟩ = false := by simp [go_sem, hf5]
      have HMe : Hid (Mod (fun b => some g = some b) w2 (w3.setCell ⟨g, n * 4 + 2, none⟩ (.int .i64 y.sc))) := HMd.out.setCell (fun _ => rfl) _
      generalize (w3.setCell ⟨g, n * 4 + 2, none⟩ (.int .i64 y.sc)) = w4 at *
      go_wp2
      go_ret
      refine ⟨_, rfl, HK2.out, ?_, HMo.out _ (HMe.out.setCell (fun _ => rfl) _)⟩
      have h := HR4.out.store n 3 (by rw [List.length_set]; exact hnl2) (by decide) (.bool yes) (wantE (decide (0 ≤ (m : Int))) (scAt l m) yes x) (by rw [List.getElem_set_self]; simp only [E, wantE, HSC.out]; rfl)
      rw [List.set_set] at h
      exact h
end Go.Proofs.YtfgplghjgjnggaaDoor.PickR
