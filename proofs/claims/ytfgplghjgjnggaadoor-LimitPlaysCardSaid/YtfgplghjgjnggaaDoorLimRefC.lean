/-
  The reference's limit: Ask.
  Conditions: where its blocks lie; the bounds.
-/
import Derived.Test.YtfgplghjgjnggaaDoorLimRefB
import Derived.StillTailTactics
import Derived.Deep.AppendLies
import Derived.Deep.RegionLaw
namespace Go.Proofs.YtfgplghjgjnggaaDoor.LimR
open Go.RowKit MapsL ModL RowsK RowsM LimitC
set_option linter.unusedSimpArgs false
set_option linter.unusedVariables false

theorem upsert_none {l : List Ent} {x : Ent} (h : findK l x.key = none) : upsert l x = l ++ [x] := by
  induction l with
  | nil => rfl
  | cons p l ih =>
    unfold findK at h
    rw [List.find?_cons] at h
    cases hp : (p.key == x.key) with
    | true => rw [hp] at h; simp at h
    | false =>
      rw [hp] at h
      simp only [upsert, hp, Bool.false_eq_true, if_false, List.cons_append]
      rw [ih h]
theorem upsert_some {l : List Ent} (hp : l.Pairwise fun x y => x.key ≠ y.key) {x y : Ent} {n : Nat} (hn : l[n]? = some y) (hk : y.key = x.key) : upsert l x = l.set n x := by
  induction l generalizing n with
  | nil => simp at hn
  | cons p l ih =>
    obtain ⟨h1, h2⟩ := List.pairwise_cons.1 hp
    cases n with
    | zero =>
      simp only [List.getElem?_cons_zero, Option.some.injEq] at hn
      subst hn
      simp [upsert, hk]
    | succ n =>
      simp only [List.getElem?_cons_succ] at hn
      have hne : p.key ≠ x.key := by rw [← hk]; exact h1 y (List.mem_of_getElem? hn)
      have hb : (p.key == x.key) = false := beq_eq_false_iff_ne.2 hne
      simp only [upsert, hb, Bool.false_eq_true, if_false, List.set_cons_succ]
      rw [ih h2 hn]
theorem RefB.cell {w : World} {q g n cap : Nat} {rate burst : Int} {l l' : List Ent} (h : RefB w q rate burst (.slice (some ⟨g, 0, none⟩) n cap) l) (i : Nat) (u : Value) (hl : l'.length = l.length) (hy : E.flat l' = (E.flat l).set i u) : RefB (w.setCell ⟨g, i, none⟩ u) q rate burst (.slice (some ⟨g, 0, none⟩) n cap) l' := by
  have hg := (h.own.lt g rfl).1
  have hne : ∀ j, (⟨q, j, none⟩ : Addr) ≠ ⟨g, i, none⟩ := fun j e => by simp only [Addr.mk.injEq] at e; omega
  have hne' : ∀ j, (⟨g, i, none⟩ : Addr) ≠ ⟨q, j, none⟩ := fun j e => by simp only [Addr.mk.injEq] at e; omega
  refine ⟨(World.cell?_setCell_other _ _ _ _ ?_).trans h.c0, (World.cell?_setCell_other _ _ _ _ ?_).trans h.c1, (World.cell?_setCell_other _ _ _ _ ?_).trans h.c2, by simp [go_sem, h.f2], own_cell h.own i u hl hy⟩
  all_goals first | exact hne _ | exact hne' _
/-- A whole element is put in another's place. -/
theorem RefB.store4 {w : World} {q g n cap : Nat} {rate burst : Int} {l : List Ent} (h : RefB w q rate burst (.slice (some ⟨g, 0, none⟩) n cap) l) (m : Nat) (x : Ent) (hm : l[m]? = some x) (y : Ent) :
    RefB ((((w.setCell ⟨g, m * 4, none⟩ (.string (str y.key))).setCell ⟨g, m * 4 + 1, none⟩ (.int .i64 y.left)).setCell ⟨g, m * 4 + 2, none⟩ (.int .i64 y.at_)).setCell ⟨g, m * 4 + 3, none⟩ (.int .i64 y.seen)) q rate burst (.slice (some ⟨g, 0, none⟩) n cap) (l.set m y) := by
  obtain ⟨hml, hme⟩ := List.getElem?_eq_some_iff.1 hm
  have s1 := h.cell (l' := l.set m { x with key := y.key }) (m * 4) (.string (str y.key)) (by simp) (flat_set E l m 0 _ _ hml (by rw [hme]; rfl) (by decide))
  have s2 := s1.cell (l' := l.set m { x with key := y.key, left := y.left }) (m * 4 + 1) (.int .i64 y.left) (by simp) (by
    have := flat_set E (l.set m { x with key := y.key }) m 1 (.int .i64 y.left) { x with key := y.key, left := y.left } (by simpa using hml) (by rw [List.getElem_set_self]; rfl) (by decide)
    rw [List.set_set] at this; exact this)
  have s3 := s2.cell (l' := l.set m { x with key := y.key, left := y.left, at_ := y.at_ }) (m * 4 + 2) (.int .i64 y.at_) (by simp) (by
    have := flat_set E (l.set m { x with key := y.key, left := y.left }) m 2 (.int .i64 y.at_) { x with key := y.key, left := y.left, at_ := y.at_ } (by simpa using hml) (by rw [List.getElem_set_self]; rfl) (by decide)
    rw [List.set_set] at this; exact this)
  exact s3.cell (l' := l.set m y) (m * 4 + 3) (.int .i64 y.seen) (by simp) (by
    have := flat_set E (l.set m { x with key := y.key, left := y.left, at_ := y.at_ }) m 3 (.int .i64 y.seen) y (by simpa using hml) (by rw [List.getElem_set_self]; rfl) (by decide)
    rw [List.set_set] at this; exact this)
/-- Behind an append to its row: what the header holds. -/
theorem RefB.grown {w w5 : World} {q : Nat} {rate burst : Int} {v : Value} {l : List Ent} (h : RefB w q rate burst v l) (o : Obj) (hg : (w.alloc o).grownBy w5 v.ownBlock) : w5.cell? ⟨q, 0, none⟩ = some (.int .i64 rate) ∧ w5.cell? ⟨q, 1, none⟩ = some (.int .i64 burst) ∧ w5.cell? ⟨q, 2, none⟩ = some v ∧ w5.frozen? ⟨q, 2, none⟩ = false := by
  have hq := h.lt
  have hb : w5.heap[q]? = w.heap[q]? := (hg.block q (by simp; omega) (fun e => by have := (h.own.lt q e.symm).1; omega)).trans (Below.heap_alloc _ _ _ hq)
  exact ⟨(World.cell?_of_block (a := ⟨q, 0, none⟩) hb).trans h.c0, (World.cell?_of_block (a := ⟨q, 1, none⟩) hb).trans h.c1, (World.cell?_of_block (a := ⟨q, 2, none⟩) hb).trans h.c2, (World.frozen?_of_block (a := ⟨q, 2, none⟩) hb).trans h.f2⟩
theorem RefB.put {w5 : World} {q n : Nat} {rate burst : Int} {v v' : Value} {l : List Ent} (x : Ent) (h0 : w5.cell? ⟨q, 0, none⟩ = some (.int .i64 rate) ∧ w5.cell? ⟨q, 1, none⟩ = some (.int .i64 burst) ∧ w5.cell? ⟨q, 2, none⟩ = some v ∧ w5.frozen? ⟨q, 2, none⟩ = false) (hn : n = l.length + 1) (ho : w5.ownsRow (q + 1) 92 4 v' n (E.flat l ++ E.enc x)) : RefB (w5.setCell ⟨q, 2, none⟩ v') q rate burst v' (l ++ [x]) := by
  have hO : Own E w5 (q + 1) 92 v' (l ++ [x]) := by
    subst hn
    unfold Own
    rw [E.flat_app, List.length_append, E.flat_cons]
    have ho' : w5.ownsRow (q + 1) 92 E.k v' (l.length + 1) (E.flat l ++ E.enc x) := ho
    simpa [Enc.flat] using ho'
  have hne : v'.ownBlock ≠ some q := fun e => by have := (hO.lt q e).1; omega
  refine ⟨(World.cell?_setCell_other _ _ _ _ (by simp)).trans h0.1, (World.cell?_setCell_other _ _ _ _ (by simp)).trans h0.2.1, World.cell?_setCell_same _ _ _ h0.2.2.1, by simp [go_sem, h0.2.2.2], hO.setCell _ _ hne⟩
set_option maxRecDepth 100000 in
set_option maxHeartbeats 2000000 in
theorem rask_bad {w : World} {q : Nat} {rate burst : Int} {v : Value} {l : List Ent} (h : RefB w q rate burst v l) (k : List UInt8) (now n : Int) (hz : checkE burst l k now n ≠ 0) :
    Calls Tryd.prog 19 #[.pointer (some ⟨q, 0, none⟩), .string (str k), .int .i64 now, .int .i64 n] w fun e w' => e = .returned (.tuple #[.bool false, .int .i64 (checkE burst l k now n)]) ∧ w = w' := by
  have HA := Lib.hid (rat_any h k)
  have HC := rcheck_any h k now n
  obtain ⟨c, hc⟩ : ∃ c, checkE burst l k now n = c := ⟨_, rfl⟩
  rw [hc] at HC hz ⊢
  have HC := Lib.hid HC
  have hzb : (c == 0) = false := by simpa using hz
  clear h hc
  go_enter Tryd.func19, Tryd.ntmps19
  go_wp2_with (first
    | (go_at_call 32; (with_reducible refine HC.out.mono ?_); rintro e w1 ⟨rfl, rfl⟩)
    | (go_at_call 33; (with_reducible refine HA.out.mono ?_); rintro e w1 ⟨rfl, ⟨rfl, hno⟩ | ⟨m, rfl, y, hm, hy⟩⟩))
  all_goals go_ret2
  all_goals exact ⟨rfl, rfl⟩
theorem rask_full {w : World} {q : Nat} {rate burst : Int} {v : Value} {l : List Ent} (h : RefB w q rate burst v l) (k : List UInt8) (now n : Int) (hz : checkE burst l k now n = 0) (hx : findK l k = none) (hl : 100 ≤ l.length) :
    Calls Tryd.prog 19 #[.pointer (some ⟨q, 0, none⟩), .string (str k), .int .i64 now, .int .i64 n] w fun e w' => e = .returned (.tuple #[.bool false, .int .i64 4]) ∧ w = w' := by
  have HA := Lib.hid (rat_any h k)
  have HC := rcheck_any h k now n
  rw [hz] at HC
  have HC := Lib.hid HC
  have HX := Lib.hid hx
  have hc2 := h.c2
  obtain ⟨a, cap, rfl, _⟩ := h.own.slice
  have hl' : (100 : Int) ≤ (l.length : Int) := by omega
  clear h hx
  go_enter Tryd.func19, Tryd.ntmps19
  go_wp2_with (first
    | (go_at_call 32; (with_reducible refine HC.out.mono ?_); rintro e w1 ⟨rfl, rfl⟩)
    | (go_at_call 33; (with_reducible refine HA.out.mono ?_); rintro e w1 ⟨rfl, ⟨rfl, hno⟩ | ⟨m, rfl, y, hm, hy⟩⟩))
  all_goals first
    | (exfalso; rw [HX.out] at hy; cases hy)
    | (go_ret2; exact ⟨rfl, rfl⟩)
set_option maxRecDepth 100000 in
set_option maxHeartbeats 4000000 in
theorem rask_ok {w : World} {q : Nat} {rate burst : Int} {v : Value} {l : List Ent} (h : RefB w q rate burst v l) (k : List UInt8) (now n : Int) (hr : 1 ≤ rate ∧ rate ≤ 1000000) (hb : 1 ≤ burst ∧ burst ≤ 1000000) (hf : Fine burst now l) (hU : l.Pairwise fun x y => x.key ≠ y.key) (hz : checkE burst l k now n = 0) (hx : (findK l k).isSome ∨ l.length < 100) (hl2 : l.length ≤ 1000000) :
    Calls Tryd.prog 19 #[.pointer (some ⟨q, 0, none⟩), .string (str k), .int .i64 now, .int .i64 n] w fun e w' => ∃ v', e = .returned (.tuple #[.bool (decide (n ≤ leftF rate burst l k now)), .int .i64 0]) ∧ (∀ a, RefB w' q rate burst v' (askL rate burst l k now n a)) ∧ Mod (fun b => b = q ∨ v.ownBlock = some b) w w' ∧ (v'.ownBlock = v.ownBlock ∨ ∃ g, v'.ownBlock = some g ∧ w.heap.size ≤ g) := by
  have hcz := check_zero hz
  have HA := Lib.hid (rat_any h k)
  have HC := rcheck_any h k now n
  rw [hz] at HC
  have HC := Lib.hid HC
  have HLF := rleft_any h k now hr hb hf ⟨hcz.2.2.1, hcz.2.2.2.1⟩ hcz.2.2.2.2
  have HR := Lib.hid h
  obtain ⟨lf, hlf⟩ : ∃ lf, leftF rate burst l k now = lf := ⟨_, rfl⟩
  obtain ⟨nl, hnl⟩ : ∃ nl, (if n ≤ lf then lf - n else lf) = nl := ⟨_, rfl⟩
  have hask : ∀ a, askL rate burst l k now n a = upsert l ⟨k, a, nl, now, now⟩ := fun a => by unfold askL; rw [hlf, hnl]
  have hlfb : 0 ≤ lf ∧ lf ≤ burst := by
    rw [← hlf]
    unfold leftF
    cases hfk : findK l k with
    | none => simp only; omega
    | some x =>
      have h1 := hf x (findK_some hfk).1
      have h2 : x.seen ≤ now := by have := hcz.2.2.2.2; unfold seenF at this; rw [hfk] at this; exact this
      have h3 : 0 ≤ rate * (now - x.at_) := Int.mul_nonneg (by omega) (by omega)
      simp only; omega
  rw [hlf] at HLF ⊢
  have HLF := Lib.hid HLF
  have HASK := Lib.hid hask
  have HU := Lib.hid hU
  have hc2 := h.c2
  have hqlt := h.lt
  obtain ⟨k1, k2, k3, k4, _⟩ := hcz
  clear hask hlf hf hz
  cases hfk : findK l k with
  | some x =>
    obtain ⟨n0, hn0⟩ : ∃ n0 : Nat, l[n0]? = some x := by
      obtain ⟨i, hi, e⟩ := List.getElem_of_mem (findK_some hfk).1
      exact ⟨i, by rw [List.getElem?_eq_getElem hi, e]⟩
    obtain ⟨g, cap, rfl, hg1, hg2, _, hent⟩ := h.entry hn0
    have HEN := Lib.hid hent
    have HF := Lib.hid hfk
    clear h hfk hn0 hent hx hU
    by_cases hle : n ≤ lf
    · have hnl' : nl = lf - n := by rw [← hnl, if_pos hle]
      clear hnl
      subst hnl'
      have hd : decide (n ≤ lf) = true := decide_eq_true hle
      have HD := Lib.hid hd
      go_enter Tryd.func19, Tryd.ntmps19
      go_upto_region 14 with (first
        | (go_at_call 32; (with_reducible refine HC.out.mono ?_); rintro e w1 ⟨rfl, rfl⟩)
        | (go_at_call 33; (with_reducible refine HA.out.mono ?_); rintro e w1 ⟨rfl, ⟨rfl, hno⟩ | ⟨m, rfl, y, hm, hy⟩⟩; exact absurd (HF.out.symm.trans hno) (by simp); obtain rfl := Option.some.inj (HF.out.symm.trans hy); have HM := Lib.hid hm; have hml := (List.getElem?_eq_some_iff.1 hm).1; have hmL : (m : Int) < (l.length : Int) := (by omega); have hm0 : (0 : Int) ≤ (m : Int) := (by omega); have hm00 : ¬ (m : Int) < 0 := (by omega); clear hm hy)
        | (go_at_call 34; (with_reducible refine HLF.out.mono ?_); rintro e w2 ⟨rfl, nq, hw2⟩; have HR2 : Hid (RefB w2 q rate burst (.slice (some ⟨g, 0, none⟩) l.length cap) l) := (by rw [← hw2]; exact HR.out.heap rfl); have HMw : Hid (Mod (fun b => b = q ∨ some g = some b) w w2 ∧ w2.heap.size = w.heap.size) := (by rw [← hw2]; exact ⟨⟨rfl, rfl, rfl, Nat.le_refl _, fun _ _ _ => rfl⟩, rfl⟩); have hq2 := HR2.out.lt; have hg2' := (HR2.out.own.lt g rfl).2; clear hw2))
      have hBa := (Below.refl w2.heap.size w2).alloc (Nat.le_refl _) (.cells #[.string (str k), .int .i64 (lf - n), .int .i64 now, .int .i64 now] 92)
      have HR3 : Hid (RefB (w2.alloc (.cells #[.string (str k), .int .i64 (lf - n), .int .i64 now, .int .i64 now] 92)) q rate burst (.slice (some ⟨g, 0, none⟩) l.length cap) l) := HR2.out.below hBa
      have n0 : (w2.alloc (.cells #[.string (str k), .int .i64 (lf - n), .int .i64 now, .int .i64 now] 92)).cell? ⟨w2.heap.size, 0, none⟩ = some (.string (str k)) := by simp
      have n1 : (w2.alloc (.cells #[.string (str k), .int .i64 (lf - n), .int .i64 now, .int .i64 now] 92)).cell? ⟨w2.heap.size, 1, none⟩ = some (.int .i64 (lf - n)) := by simp
      have n2 : (w2.alloc (.cells #[.string (str k), .int .i64 (lf - n), .int .i64 now, .int .i64 now] 92)).cell? ⟨w2.heap.size, 2, none⟩ = some (.int .i64 now) := by simp
      have n3 : (w2.alloc (.cells #[.string (str k), .int .i64 (lf - n), .int .i64 now, .int .i64 now] 92)).cell? ⟨w2.heap.size, 3, none⟩ = some (.int .i64 now) := by simp
      have HMd : Hid (Mod (fun b => b = q ∨ some g = some b) w (w2.alloc (.cells #[.string (str k), .int .i64 (lf - n), .int .i64 now, .int .i64 now] 92))) := HMw.out.1.alloc _
      generalize (w2.alloc (.cells #[.string (str k), .int .i64 (lf - n), .int .i64 now, .int .i64 now] 92)) = w3 at *
      have hc3 := HR3.out.c2
      have hen := HR3.out.entry HM.out
      obtain ⟨g', cap', e', _, _, _, hent3⟩ := hen
      simp only [Value.slice.injEq, Option.some.injEq, Addr.mk.injEq, and_true, true_and] at e'
      obtain ⟨rfl, rfl⟩ := e'
      obtain ⟨y0, y1, y2, y3⟩ := hent3 m x HM.out
      have f0 := own_frozen HR3.out.own (m * 4)
      have f1 := own_frozen HR3.out.own (m * 4 + 1)
      have f2 := own_frozen HR3.out.own (m * 4 + 2)
      have f3 := own_frozen HR3.out.own (m * 4 + 3)
      clear hent3 hBa hc2
      go_still_tail 7, (by kernel_rfl)
      change wpList _ _ _ _ _ w3.drew
      have HR4 : Hid (RefB w3.drew q rate burst (.slice (some ⟨g, 0, none⟩) l.length cap) l) := HR3.out.heap rfl
      have y0' : w3.drew.cell? ⟨g, m * 4, none⟩ = some (.string (str x.key)) := y0
      have y1' : w3.drew.cell? ⟨g, m * 4 + 1, none⟩ = some (.int .i64 x.left) := y1
      have y2' : w3.drew.cell? ⟨g, m * 4 + 2, none⟩ = some (.int .i64 x.at_) := y2
      have y3' : w3.drew.cell? ⟨g, m * 4 + 3, none⟩ = some (.int .i64 x.seen) := y3
      have f0' : w3.drew.frozen? ⟨g, m * 4, none⟩ = false := f0
      have f1' : w3.drew.frozen? ⟨g, m * 4 + 1, none⟩ = false := f1
      have f2' : w3.drew.frozen? ⟨g, m * 4 + 2, none⟩ = false := f2
      have f3' : w3.drew.frozen? ⟨g, m * 4 + 3, none⟩ = false := f3
      have HMe : Hid (Mod (fun b => b = q ∨ some g = some b) w w3.drew) := HMd.out.drew
      clear y0 y1 y2 y3 f0 f1 f2 f3 n0 n1 n2 n3 hc3
      generalize w3.drew = w4 at *
      go_wp2
      go_ret2
      rw [HD.out]
      refine ⟨_, rfl, fun a' => ?_, ((((HMe.out.setCell (fun _ => .inr rfl) _).setCell (fun _ => .inr rfl) _).setCell (fun _ => .inr rfl) _).setCell (fun _ => .inr rfl) _), .inl rfl⟩
      rw [HASK.out a', upsert_some HU.out HM.out (findK_some HF.out).2]
      exact HR4.out.store4 m x HM.out ⟨k, a', (lf - n), now, now⟩

    · have hnl' : nl = lf := by rw [← hnl, if_neg hle]
      clear hnl
      subst hnl'
      have hd : decide (n ≤ nl) = false := decide_eq_false hle
      have HD := Lib.hid hd
      go_enter Tryd.func19, Tryd.ntmps19
      go_upto_region 14 with (first
        | (go_at_call 32; (with_reducible refine HC.out.mono ?_); rintro e w1 ⟨rfl, rfl⟩)
        | (go_at_call 33; (with_reducible refine HA.out.mono ?_); rintro e w1 ⟨rfl, ⟨rfl, hno⟩ | ⟨m, rfl, y, hm, hy⟩⟩; exact absurd (HF.out.symm.trans hno) (by simp); obtain rfl := Option.some.inj (HF.out.symm.trans hy); have HM := Lib.hid hm; have hml := (List.getElem?_eq_some_iff.1 hm).1; have hmL : (m : Int) < (l.length : Int) := (by omega); have hm0 : (0 : Int) ≤ (m : Int) := (by omega); have hm00 : ¬ (m : Int) < 0 := (by omega); clear hm hy)
        | (go_at_call 34; (with_reducible refine HLF.out.mono ?_); rintro e w2 ⟨rfl, nq, hw2⟩; have HR2 : Hid (RefB w2 q rate burst (.slice (some ⟨g, 0, none⟩) l.length cap) l) := (by rw [← hw2]; exact HR.out.heap rfl); have HMw : Hid (Mod (fun b => b = q ∨ some g = some b) w w2 ∧ w2.heap.size = w.heap.size) := (by rw [← hw2]; exact ⟨⟨rfl, rfl, rfl, Nat.le_refl _, fun _ _ _ => rfl⟩, rfl⟩); have hq2 := HR2.out.lt; have hg2' := (HR2.out.own.lt g rfl).2; clear hw2))
      have hBa := (Below.refl w2.heap.size w2).alloc (Nat.le_refl _) (.cells #[.string (str k), .int .i64 nl, .int .i64 now, .int .i64 now] 92)
      have HR3 : Hid (RefB (w2.alloc (.cells #[.string (str k), .int .i64 nl, .int .i64 now, .int .i64 now] 92)) q rate burst (.slice (some ⟨g, 0, none⟩) l.length cap) l) := HR2.out.below hBa
      have n0 : (w2.alloc (.cells #[.string (str k), .int .i64 nl, .int .i64 now, .int .i64 now] 92)).cell? ⟨w2.heap.size, 0, none⟩ = some (.string (str k)) := by simp
      have n1 : (w2.alloc (.cells #[.string (str k), .int .i64 nl, .int .i64 now, .int .i64 now] 92)).cell? ⟨w2.heap.size, 1, none⟩ = some (.int .i64 nl) := by simp
      have n2 : (w2.alloc (.cells #[.string (str k), .int .i64 nl, .int .i64 now, .int .i64 now] 92)).cell? ⟨w2.heap.size, 2, none⟩ = some (.int .i64 now) := by simp
      have n3 : (w2.alloc (.cells #[.string (str k), .int .i64 nl, .int .i64 now, .int .i64 now] 92)).cell? ⟨w2.heap.size, 3, none⟩ = some (.int .i64 now) := by simp
      have HMd : Hid (Mod (fun b => b = q ∨ some g = some b) w (w2.alloc (.cells #[.string (str k), .int .i64 nl, .int .i64 now, .int .i64 now] 92))) := HMw.out.1.alloc _
      generalize (w2.alloc (.cells #[.string (str k), .int .i64 nl, .int .i64 now, .int .i64 now] 92)) = w3 at *
      have hc3 := HR3.out.c2
      have hen := HR3.out.entry HM.out
      obtain ⟨g', cap', e', _, _, _, hent3⟩ := hen
      simp only [Value.slice.injEq, Option.some.injEq, Addr.mk.injEq, and_true, true_and] at e'
      obtain ⟨rfl, rfl⟩ := e'
      obtain ⟨y0, y1, y2, y3⟩ := hent3 m x HM.out
      have f0 := own_frozen HR3.out.own (m * 4)
      have f1 := own_frozen HR3.out.own (m * 4 + 1)
      have f2 := own_frozen HR3.out.own (m * 4 + 2)
      have f3 := own_frozen HR3.out.own (m * 4 + 3)
      clear hent3 hBa hc2
      go_still_tail 7, (by kernel_rfl)
      change wpList _ _ _ _ _ w3.drew
      have HR4 : Hid (RefB w3.drew q rate burst (.slice (some ⟨g, 0, none⟩) l.length cap) l) := HR3.out.heap rfl
      have y0' : w3.drew.cell? ⟨g, m * 4, none⟩ = some (.string (str x.key)) := y0
      have y1' : w3.drew.cell? ⟨g, m * 4 + 1, none⟩ = some (.int .i64 x.left) := y1
      have y2' : w3.drew.cell? ⟨g, m * 4 + 2, none⟩ = some (.int .i64 x.at_) := y2
      have y3' : w3.drew.cell? ⟨g, m * 4 + 3, none⟩ = some (.int .i64 x.seen) := y3
      have f0' : w3.drew.frozen? ⟨g, m * 4, none⟩ = false := f0
      have f1' : w3.drew.frozen? ⟨g, m * 4 + 1, none⟩ = false := f1
      have f2' : w3.drew.frozen? ⟨g, m * 4 + 2, none⟩ = false := f2
      have f3' : w3.drew.frozen? ⟨g, m * 4 + 3, none⟩ = false := f3
      have HMe : Hid (Mod (fun b => b = q ∨ some g = some b) w w3.drew) := HMd.out.drew
      clear y0 y1 y2 y3 f0 f1 f2 f3 n0 n1 n2 n3 hc3
      generalize w3.drew = w4 at *
      go_wp2
      go_ret2
      rw [HD.out]
      refine ⟨_, rfl, fun a' => ?_, ((((HMe.out.setCell (fun _ => .inr rfl) _).setCell (fun _ => .inr rfl) _).setCell (fun _ => .inr rfl) _).setCell (fun _ => .inr rfl) _), .inl rfl⟩
      rw [HASK.out a', upsert_some HU.out HM.out (findK_some HF.out).2]
      exact HR4.out.store4 m x HM.out ⟨k, a', nl, now, now⟩

  | none =>
    obtain ⟨av, cap, rfl, hcap1, hcap2, _⟩ := h.own.slice
    have hl100 : l.length < 100 := by rcases hx with h1 | h1; rw [hfk] at h1; cases h1; exact h1
    have hl' : ¬ (100 : Int) ≤ (l.length : Int) := by omega
    obtain ⟨i0, z0, hi, hz0, hz1, hz2, hzs⟩ := elem.info
    have HF := Lib.hid hfk
    clear h hfk hx hU
    by_cases hle : n ≤ lf
    · have hnl' : nl = lf - n := by rw [← hnl, if_pos hle]
      clear hnl
      subst hnl'
      have hd : decide (n ≤ lf) = true := decide_eq_true hle
      have HD := Lib.hid hd
      go_enter Tryd.func19, Tryd.ntmps19
      go_upto_region 13 with (first
        | (go_at_call 32; (with_reducible refine HC.out.mono ?_); rintro e w1 ⟨rfl, rfl⟩)
        | (go_at_call 33; (with_reducible refine HA.out.mono ?_); rintro e w1 ⟨rfl, ⟨rfl, hno⟩ | ⟨m, rfl, y, hm, hy⟩⟩; rotate_left; exact absurd (HF.out.symm.trans hy) (by simp); clear hno)
        | (go_at_call 34; (with_reducible refine HLF.out.mono ?_); rintro e w2 ⟨rfl, nq, hw2⟩; have HR2 : Hid (RefB w2 q rate burst (.slice av l.length cap) l) := (by rw [← hw2]; exact HR.out.heap rfl); have HMw : Hid (Mod (fun b => b = q ∨ (Value.slice av l.length cap).ownBlock = some b) w w2 ∧ w2.heap.size = w.heap.size) := (by rw [← hw2]; exact ⟨⟨rfl, rfl, rfl, Nat.le_refl _, fun _ _ _ => rfl⟩, rfl⟩); have hq2 := HR2.out.lt; clear hw2))
      have hBa := (Below.refl w2.heap.size w2).alloc (Nat.le_refl _) (.cells #[.string (str k), .int .i64 (lf - n), .int .i64 now, .int .i64 now] 92)
      have HR3 : Hid (RefB (w2.alloc (.cells #[.string (str k), .int .i64 (lf - n), .int .i64 now, .int .i64 now] 92)) q rate burst (.slice av l.length cap) l) := HR2.out.below hBa
      have n0 : (w2.alloc (.cells #[.string (str k), .int .i64 (lf - n), .int .i64 now, .int .i64 now] 92)).cell? ⟨w2.heap.size, 0, none⟩ = some (.string (str k)) := by simp
      have n1 : (w2.alloc (.cells #[.string (str k), .int .i64 (lf - n), .int .i64 now, .int .i64 now] 92)).cell? ⟨w2.heap.size, 1, none⟩ = some (.int .i64 (lf - n)) := by simp
      have n2 : (w2.alloc (.cells #[.string (str k), .int .i64 (lf - n), .int .i64 now, .int .i64 now] 92)).cell? ⟨w2.heap.size, 2, none⟩ = some (.int .i64 now) := by simp
      have n3 : (w2.alloc (.cells #[.string (str k), .int .i64 (lf - n), .int .i64 now, .int .i64 now] 92)).cell? ⟨w2.heap.size, 3, none⟩ = some (.int .i64 now) := by simp
      have HMd : Hid (Mod (fun b => b = q ∨ (Value.slice av l.length cap).ownBlock = some b) w (w2.alloc (.cells #[.string (str k), .int .i64 (lf - n), .int .i64 now, .int .i64 now] 92)) ∧ w.heap.size ≤ (w2.alloc (.cells #[.string (str k), .int .i64 (lf - n), .int .i64 now, .int .i64 now] 92)).heap.size) := ⟨HMw.out.1.alloc _, by have := HMw.out.2; simp; omega⟩
      generalize (w2.alloc (.cells #[.string (str k), .int .i64 (lf - n), .int .i64 now, .int .i64 now] 92)) = w3 at *
      have hc3 := HR3.out.c2
      have hq3 := HR3.out.lt
      have HR4 : Hid (RefB w3.drew q rate burst (.slice av l.length cap) l) := HR3.out.heap rfl
      have h3d : w3.drew.heap.size = w3.heap.size := rfl
      have HNW : Hid (∀ j u, (E.enc ⟨k, 0, (lf - n), now, now⟩)[j]? = some u → (w3.drew.alloc (.cells #[.string (str k), .int .i64 (lf - n), .int .i64 now, .int .i64 now] 92)).cell? ((⟨w3.heap.size, 0, none⟩ : Addr).add j) = some u) := fun j u hu => World.news_of_block (heap_alloc_new w3.drew _) j u hu
      clear hBa hc2
      go_region_law (refine step_append_lies _ rfl (.tmp 62) (.tmp 64) 50 rfl (q + 1) 92 i0 z0 4 40 Tryd.underlying50 hi hz0 hz1 hz2 hzs (by decide) (.slice av l.length cap) l.length (E.flat l) (by simp [Act.eval, Act.put]) (World.ownsRow.alloc HR4.out.own _) ⟨w3.heap.size, 0, none⟩ 1 1 (E.enc ⟨k, 0, (lf - n), now, now⟩) (by simp [Act.eval, Act.put]) rfl HNW.out (E.one _) (by decide) (by simp only [maxLen]; omega) (by omega) (by simp; omega) _ rfl ?_; intro g5 c5 w5 ho5 hg5 hat5 hlt5; have HGR := Lib.hid (HR4.out.grown _ hg5); have qc := HGR.out.2.2.1; have qf := HGR.out.2.2.2; have HO5 := Lib.hid ho5; have HX5 := Lib.hid (And.intro hg5 (And.intro hat5 hlt5)); clear ho5 hg5 hat5 hlt5)
      all_goals
        go_wp2
        go_ret2
        rw [HD.out]
        refine ⟨.slice (some ⟨g5, 0, none⟩) (l.length + 1) c5, rfl, fun a' => ?_, ?_, ?_⟩
        · rw [HASK.out a', upsert_none HF.out]
          exact RefB.put ⟨k, a', (lf - n), now, now⟩ HGR.out rfl HO5.out
        · refine Mod.setCell ?_ (fun _ => .inl rfl) _
          exact (HMd.out.1.drew.alloc _).grown HX5.out.1 (fun b hb _ => .inr hb)
        · rcases HX5.out.2.1 with h1 | h1
          · exact .inl h1.symm
          · have hh := HMd.out.2
            have h2 : g5 = w3.drew.heap.size + 1 := by rw [h1]; simp
            have h3 : w3.drew.heap.size = w3.heap.size := rfl
            exact .inr ⟨g5, rfl, by omega⟩
    · have hnl' : nl = lf := by rw [← hnl, if_neg hle]
      clear hnl
      subst hnl'
      have hd : decide (n ≤ nl) = false := decide_eq_false hle
      have HD := Lib.hid hd
      go_enter Tryd.func19, Tryd.ntmps19
      go_upto_region 13 with (first
        | (go_at_call 32; (with_reducible refine HC.out.mono ?_); rintro e w1 ⟨rfl, rfl⟩)
        | (go_at_call 33; (with_reducible refine HA.out.mono ?_); rintro e w1 ⟨rfl, ⟨rfl, hno⟩ | ⟨m, rfl, y, hm, hy⟩⟩; rotate_left; exact absurd (HF.out.symm.trans hy) (by simp); clear hno)
        | (go_at_call 34; (with_reducible refine HLF.out.mono ?_); rintro e w2 ⟨rfl, nq, hw2⟩; have HR2 : Hid (RefB w2 q rate burst (.slice av l.length cap) l) := (by rw [← hw2]; exact HR.out.heap rfl); have HMw : Hid (Mod (fun b => b = q ∨ (Value.slice av l.length cap).ownBlock = some b) w w2 ∧ w2.heap.size = w.heap.size) := (by rw [← hw2]; exact ⟨⟨rfl, rfl, rfl, Nat.le_refl _, fun _ _ _ => rfl⟩, rfl⟩); have hq2 := HR2.out.lt; clear hw2))
      have hBa := (Below.refl w2.heap.size w2).alloc (Nat.le_refl _) (.cells #[.string (str k), .int .i64 nl, .int .i64 now, .int .i64 now] 92)
      have HR3 : Hid (RefB (w2.alloc (.cells #[.string (str k), .int .i64 nl, .int .i64 now, .int .i64 now] 92)) q rate burst (.slice av l.length cap) l) := HR2.out.below hBa
      have n0 : (w2.alloc (.cells #[.string (str k), .int .i64 nl, .int .i64 now, .int .i64 now] 92)).cell? ⟨w2.heap.size, 0, none⟩ = some (.string (str k)) := by simp
      have n1 : (w2.alloc (.cells #[.string (str k), .int .i64 nl, .int .i64 now, .int .i64 now] 92)).cell? ⟨w2.heap.size, 1, none⟩ = some (.int .i64 nl) := by simp
      have n2 : (w2.alloc (.cells #[.string (str k), .int .i64 nl, .int .i64 now, .int .i64 now] 92)).cell? ⟨w2.heap.size, 2, none⟩ = some (.int .i64 now) := by simp
      have n3 : (w2.alloc (.cells #[.string (str k), .int .i64 nl, .int .i64 now, .int .i64 now] 92)).cell? ⟨w2.heap.size, 3, none⟩ = some (.int .i64 now) := by simp
      have HMd : Hid (Mod (fun b => b = q ∨ (Value.slice av l.length cap).ownBlock = some b) w (w2.alloc (.cells #[.string (str k), .int .i64 nl, .int .i64 now, .int .i64 now] 92)) ∧ w.heap.size ≤ (w2.alloc (.cells #[.string (str k), .int .i64 nl, .int .i64 now, .int .i64 now] 92)).heap.size) := ⟨HMw.out.1.alloc _, by have := HMw.out.2; simp; omega⟩
      generalize (w2.alloc (.cells #[.string (str k), .int .i64 nl, .int .i64 now, .int .i64 now] 92)) = w3 at *
      have hc3 := HR3.out.c2
      have hq3 := HR3.out.lt
      have HR4 : Hid (RefB w3.drew q rate burst (.slice av l.length cap) l) := HR3.out.heap rfl
      have h3d : w3.drew.heap.size = w3.heap.size := rfl
      have HNW : Hid (∀ j u, (E.enc ⟨k, 0, nl, now, now⟩)[j]? = some u → (w3.drew.alloc (.cells #[.string (str k), .int .i64 nl, .int .i64 now, .int .i64 now] 92)).cell? ((⟨w3.heap.size, 0, none⟩ : Addr).add j) = some u) := fun j u hu => World.news_of_block (heap_alloc_new w3.drew _) j u hu
      clear hBa hc2
      go_region_law (refine step_append_lies _ rfl (.tmp 62) (.tmp 64) 50 rfl (q + 1) 92 i0 z0 4 40 Tryd.underlying50 hi hz0 hz1 hz2 hzs (by decide) (.slice av l.length cap) l.length (E.flat l) (by simp [Act.eval, Act.put]) (World.ownsRow.alloc HR4.out.own _) ⟨w3.heap.size, 0, none⟩ 1 1 (E.enc ⟨k, 0, nl, now, now⟩) (by simp [Act.eval, Act.put]) rfl HNW.out (E.one _) (by decide) (by simp only [maxLen]; omega) (by omega) (by simp; omega) _ rfl ?_; intro g5 c5 w5 ho5 hg5 hat5 hlt5; have HGR := Lib.hid (HR4.out.grown _ hg5); have qc := HGR.out.2.2.1; have qf := HGR.out.2.2.2; have HO5 := Lib.hid ho5; have HX5 := Lib.hid (And.intro hg5 (And.intro hat5 hlt5)); clear ho5 hg5 hat5 hlt5)
      all_goals
        go_wp2
        go_ret2
        rw [HD.out]
        refine ⟨.slice (some ⟨g5, 0, none⟩) (l.length + 1) c5, rfl, fun a' => ?_, ?_, ?_⟩
        · rw [HASK.out a', upsert_none HF.out]
          exact RefB.put ⟨k, a', nl, now, now⟩ HGR.out rfl HO5.out
        · refine Mod.setCell ?_ (fun _ => .inl rfl) _
          exact (HMd.out.1.drew.alloc _).grown HX5.out.1 (fun b hb _ => .inr hb)
        · rcases HX5.out.2.1 with h1 | h1
          · exact .inl h1.symm
          · have hh := HMd.out.2
            have h2 : g5 = w3.drew.heap.size + 1 := by rw [h1]; simp
            have h3 : w3.drew.heap.size = w3.heap.size := rfl
            exact .inr ⟨g5, rfl, by omega⟩
end Go.Proofs.YtfgplghjgjnggaaDoor.LimR
