/-
  Contracts of package table, the second part, over this seat's translation.
  Conditions: the receiver's cells; the added fields in a slice of the call's own.
-/
import Derived.Test.YtegngpingfjedaaGreatDoorTableA
import Derived.Test.YtegngpingfjedaaGreatDoorFieldRows
import Derived.Test.YtegngpingfjedaaGreatDoorFieldCat
import Derived.Test.YtegngpingfjedaaGreatDoorMod
import Derived.WalkSpells
import Derived.WalkLawsBesides
import Derived.Deep.QuietTactic
import Derived.Deep.RegionHeld3
import Derived.Deep.RegionWith
import Derived.BigQuiet
import Derived.IntWalk
import Derived.Lib.Hide
namespace Go.Proofs.YtegngpingfjedaaGreatDoor.TableC
open Go.RowKit RowsK FieldRows ModL
set_option linter.unusedSimpArgs false
set_option linter.unusedVariables false

/-- The table's fields and their weight, when a field was added. -/
def addL (max : Int) (l : List Fld) (sz : Int) (f : Fld) : List Fld × Int × Bool :=
  if max < sizeW f then (l.take (shrN l 0 l.length sz).1, (shrN l 0 l.length sz).2, false)
  else (f :: l.take (shrN l (wrap64 (max - sizeW f)) l.length sz).1, wrap64 ((shrN l (wrap64 (max - sizeW f)) l.length sz).2 + sizeW f), true)
theorem drew_size (w : World) : w.drew.heap.size = w.heap.size := rfl
/-- Other fields in place of the old ones. -/
theorem IsTable.put0 {w : World} {b base : Nat} {max sz : Int} {l l' : List Fld} {va : Value} (h : IsTable w b base max l sz) (hO : Own encF w base 34 va l') (hne : va.ownBlock ≠ some b) : IsTable (w.setCell ⟨b, 0, none⟩ va) b base max l' sz := by
  obtain ⟨⟨v0, hc0, _, _⟩, hc1, hc2, f0, f1, f2, hm, hs, hbb⟩ := h
  exact ⟨⟨va, World.cell?_setCell_same _ _ _ hc0, hO.setCell _ _ hne, hne⟩, (World.cell?_setCell_other _ _ _ _ (by simp)).trans hc1, (World.cell?_setCell_other _ _ _ _ (by simp)).trans hc2, by rw [frozen_set]; exact f0, by rw [frozen_set]; exact f1, by rw [frozen_set]; exact f2, hm, hs, hbb⟩
/-- Another weight. -/
theorem IsTable.put1 {w : World} {b base : Nat} {max sz : Int} {l : List Fld} (h : IsTable w b base max l sz) (s2 : Int) (h2 : -9223372036854775808 ≤ s2 ∧ s2 ≤ 9223372036854775807) : IsTable (w.setCell ⟨b, 1, none⟩ (.int .i64 s2)) b base max l s2 := by
  obtain ⟨⟨v0, hc0, hO, hne⟩, hc1, hc2, f0, f1, f2, hm, hs, hbb⟩ := h
  exact ⟨⟨v0, (World.cell?_setCell_other _ _ _ _ (by simp)).trans hc0, hO.setCell _ _ hne, hne⟩, World.cell?_setCell_same _ _ _ hc1, (World.cell?_setCell_other _ _ _ _ (by simp)).trans hc2, by rw [frozen_set]; exact f0, by rw [frozen_set]; exact f1, by rw [frozen_set]; exact f2, hm, h2, hbb⟩
/-- The table, when its fields' block was written, or left for another one. -/
theorem IsTable.grown {w w' : World} {b base : Nat} {max sz : Int} {l : List Fld} {va : Value} (h : IsTable w b base max l sz) (h0 : w.cell? ⟨b, 0, none⟩ = some va) (hg : w.grownBy w' va.ownBlock) {va' : Value} {l' : List Fld} (hO : Own encF w' base 34 va' l') (hat : va'.ownBlock = va.ownBlock ∨ va'.ownBlock = some w.heap.size) :
    IsTable (w'.setCell ⟨b, 0, none⟩ va') b base max l' sz := by
  have hlt := h.lt
  obtain ⟨⟨v0, hc0, _, hne⟩, hc1, hc2, f0, f1, f2, hm, hs, hbb⟩ := h
  obtain rfl : v0 = va := Option.some.inj (hc0.symm.trans h0)
  have hb : w'.heap[b]? = w.heap[b]? := hg.block b hlt (fun e => hne e.symm)
  have hne' : va'.ownBlock ≠ some b := by
    rcases hat with e | e
    · rw [e]; exact hne
    · rw [e]; simp; omega
  have n0 : ∀ i, w'.cell? ⟨b, i, none⟩ = w.cell? ⟨b, i, none⟩ := fun i => World.cell?_of_block (a := ⟨b, i, none⟩) hb
  have nf : ∀ i, w'.frozen? ⟨b, i, none⟩ = w.frozen? ⟨b, i, none⟩ := fun i => World.frozen?_of_block (a := ⟨b, i, none⟩) hb
  exact ⟨⟨va', World.cell?_setCell_same _ _ _ ((n0 0).trans hc0), hO.setCell _ _ hne', hne'⟩, (World.cell?_setCell_other _ _ _ _ (by simp)).trans ((n0 1).trans hc1), (World.cell?_setCell_other _ _ _ _ (by simp)).trans ((n0 2).trans hc2), by rw [frozen_set, nf]; exact f0, by rw [frozen_set, nf]; exact f1, by rw [frozen_set, nf]; exact f2, hm, hs, hbb⟩
/-- slices.Insert(s, 0, f), f in a block that the call has just made. -/
theorem insert_new (base : Nat) (va : Value) (l : List Fld) (f : Fld) (w W : World) (h : Own encF w base 34 va l) (hbig : l.length ≤ 1000000) (hb : base ≤ w.heap.size) (hW : W.heap = (w.alloc (.cells #[.string f.1, .string f.2] 34)).heap) :
    Calls Tryz.prog 82 #[va, .int .i64 0, .slice (some ⟨w.heap.size, 0, none⟩) 1 1] W fun e w' => ∃ a n c, e = .returned (.slice a n c) ∧ Own encF w' base 34 (.slice a n c) (f :: l) ∧ W.grownBy w' va.ownBlock ∧ ((Value.slice a n c).ownBlock = va.ownBlock ∨ (Value.slice a n c).ownBlock = some W.heap.size) := by
  have hs : W.heap.size = w.heap.size + 1 := by rw [hW]; simp
  have hO : Own encF W base 34 va l := h.of_block fun k hk => by rw [hW]; exact Below.heap_alloc _ _ _ (h.lt k hk).2
  have hcv : W.heap[w.heap.size]? = some (.cells #[.string f.1, .string f.2] 34 (0, 0)) := by rw [hW]; exact heap_alloc_new w _
  have hL : Own encF (w.alloc (.cells #[.string f.1, .string f.2] 34)) w.heap.size 34 (.slice (some ⟨w.heap.size, 0, none⟩) 1 1) [f] := Own.lit w #[.string f.1, .string f.2] [f] (Nat.le_refl _) (by simp) rfl
  have hat : At encF W (.slice (some ⟨w.heap.size, 0, none⟩) 1 1) [f] := hL.at_.of_block (fun g hg => by rw [hW]) (by rw [hW]; exact Nat.le_refl _)
  refine (insert_any base va l f W w.heap.size hO (by omega) (fun e => by have := (h.lt _ e).2; omega) hat _ hcv (by omega)).mono ?_
  rintro e w' ⟨v', rfl, q1, q2, q3⟩
  obtain ⟨a, c, rfl, _⟩ := q1.slice
  exact ⟨a, _, c, rfl, q1, q2, q3⟩
set_option maxRecDepth 100000 in
set_option maxHeartbeats 4000000 in
theorem add_any {w : World} {b base : Nat} {max sz : Int} {l : List Fld} (h : IsTable w b base max l sz) (f : Fld) (hl : l.length ≤ 1000000) :
    Calls Tryz.prog 41 #[.pointer (some ⟨b, 0, none⟩), fv f] w fun e w' => e = .returned (.bool (addL max l sz f).2.2) ∧ IsTable w' b base max (addL max l sz f).1 (addL max l sz f).2.1 ∧ Mod (fun k => base ≤ k) w w' := by
  have H := Lib.hid h
  have hlt := h.lt
  have c2 := h.c2
  have hm := h.hm
  obtain ⟨a, c⟩ := f
  by_cases hbig : max < sizeW (a, c)
  · have HA : Hid (addL max l sz (a, c) = (l.take (shrN l 0 l.length sz).1, (shrN l 0 l.length sz).2, false)) := by show _ = _; unfold addL; rw [if_pos hbig]
    clear h
    simp only [fv]
    go_enter Tryz.func41, Tryz.ntmps41
    go_wp2_with fail
    have hB1 : Below w.heap.size w (w.alloc (.cells #[.string a, .string c] 34)) := (Below.refl _ _).alloc (Nat.le_refl _) _
    have hsz1 : (w.alloc (.cells #[.string a, .string c] 34)).heap.size = w.heap.size + 1 := by simp
    have k0 : (w.alloc (.cells #[.string a, .string c] 34)).cell? ⟨w.heap.size, 0, none⟩ = some (.string a) := by simp
    have k1 : (w.alloc (.cells #[.string a, .string c] 34)).cell? ⟨w.heap.size, 1, none⟩ = some (.string c) := by simp
    generalize w.alloc (.cells #[.string a, .string c] 34) = w1 at *
    have hS1 : w1.drew.cell? ⟨w.heap.size, 0, none⟩ = some (.string a) ∧ w1.drew.cell? ⟨w.heap.size, 1, none⟩ = some (.string c) ∧ w1.drew.cell? ⟨b, 2, none⟩ = some (.int .i64 max) := ⟨k0, k1, (hB1.cell (p := ⟨b, 2, none⟩) hlt).trans c2⟩
    have HB1 := Lib.hid hB1
    clear hB1 k0 k1 c2
    go_region_held3 (fun w' => w'.cell? ⟨w.heap.size, 0, none⟩ = some (.string a) ∧ w'.cell? ⟨w.heap.size, 1, none⟩ = some (.string c) ∧ w'.cell? ⟨b, 2, none⟩ = some (.int .i64 max)) (first | exact hS1 | exact hS2)
      (first | (go_at_call 80; refine (size_any (a, c) _).mono ?_; rintro e w2 ⟨rfl, hB2⟩; have hS2 : w2.cell? ⟨w.heap.size, 0, none⟩ = some (.string a) ∧ w2.cell? ⟨w.heap.size, 1, none⟩ = some (.string c) ∧ w2.cell? ⟨b, 2, none⟩ = some (.int .i64 max) := ⟨(hB2.cell (p := ⟨w.heap.size, 0, none⟩) (by simp; omega)).trans hS1.1, (hB2.cell (p := ⟨w.heap.size, 1, none⟩) (by simp; omega)).trans hS1.2.1, (hB2.cell (p := ⟨b, 2, none⟩) (by simp; omega)).trans hS1.2.2⟩))
    have H2 := Lib.hid ((H.out.old HB1.out).drew.old hB2)
    have HB2 : Hid (Below w.heap.size w w2) := HB1.out.drew.trans (hB2.mono (by rw [drew_size]; omega))
    clear hB2 hS1 hS2
    go_wp2_with (first
      | (go_at_call 81; refine (shrink_any H2.out 0 hl).mono ?_; rintro e w3 ⟨rfl, h3, hM3, _⟩)
      | fail)
    go_ret
    rw [HA.out]
    exact ⟨rfl, h3, (Mod.ofBelow HB2.out (fun q hq hge => by omega)).andThen hM3 (fun q hq e => by rw [e]; exact H.out.hb)⟩
  · have hsm : sizeW (a, c) ≤ max := by omega
    obtain ⟨sw1, sw2⟩ := sizeW_I64 (a, c)
    have HA : Hid (addL max l sz (a, c) = ((a, c) :: l.take (shrN l (wrap64 (max - sizeW (a, c))) l.length sz).1, wrap64 ((shrN l (wrap64 (max - sizeW (a, c))) l.length sz).2 + sizeW (a, c)), true)) := by show _ = _; unfold addL; rw [if_neg hbig]
    clear h hbig
    simp only [fv]
    go_enter Tryz.func41, Tryz.ntmps41
    go_wp2_with fail
    have hB1 : Below w.heap.size w (w.alloc (.cells #[.string a, .string c] 34)) := (Below.refl _ _).alloc (Nat.le_refl _) _
    have hsz1 : (w.alloc (.cells #[.string a, .string c] 34)).heap.size = w.heap.size + 1 := by simp
    have k0 : (w.alloc (.cells #[.string a, .string c] 34)).cell? ⟨w.heap.size, 0, none⟩ = some (.string a) := by simp
    have k1 : (w.alloc (.cells #[.string a, .string c] 34)).cell? ⟨w.heap.size, 1, none⟩ = some (.string c) := by simp
    generalize w.alloc (.cells #[.string a, .string c] 34) = w1 at *
    have hS1 : w1.drew.cell? ⟨w.heap.size, 0, none⟩ = some (.string a) ∧ w1.drew.cell? ⟨w.heap.size, 1, none⟩ = some (.string c) ∧ w1.drew.cell? ⟨b, 2, none⟩ = some (.int .i64 max) := ⟨k0, k1, (hB1.cell (p := ⟨b, 2, none⟩) hlt).trans c2⟩
    have HB1 := Lib.hid hB1
    clear hB1 k0 k1 c2
    go_region_held3 (fun w' => w'.cell? ⟨w.heap.size, 0, none⟩ = some (.string a) ∧ w'.cell? ⟨w.heap.size, 1, none⟩ = some (.string c) ∧ w'.cell? ⟨b, 2, none⟩ = some (.int .i64 max)) (first | exact hS1 | exact hS2)
      (first | (go_at_call 80; refine (size_any (a, c) _).mono ?_; rintro e w2 ⟨rfl, hB2⟩; have hS2 : w2.cell? ⟨w.heap.size, 0, none⟩ = some (.string a) ∧ w2.cell? ⟨w.heap.size, 1, none⟩ = some (.string c) ∧ w2.cell? ⟨b, 2, none⟩ = some (.int .i64 max) := ⟨(hB2.cell (p := ⟨w.heap.size, 0, none⟩) (by simp; omega)).trans hS1.1, (hB2.cell (p := ⟨w.heap.size, 1, none⟩) (by simp; omega)).trans hS1.2.1, (hB2.cell (p := ⟨b, 2, none⟩) (by simp; omega)).trans hS1.2.2⟩))
    have H2 := Lib.hid ((H.out.old HB1.out).drew.old hB2)
    have HB2 : Hid (Below w.heap.size w w2) := HB1.out.drew.trans (hB2.mono (by rw [drew_size]; omega))
    have hlt2 := H2.out.lt
    have hF2 : w.heap.size < w2.heap.size := by have h9 := hB2.size; rw [drew_size] at h9; omega
    clear hB2 hS1
    go_wp2_with fail
    have hS3 : w2.drew.cell? ⟨w.heap.size, 0, none⟩ = some (.string a) ∧ w2.drew.cell? ⟨w.heap.size, 1, none⟩ = some (.string c) ∧ w2.drew.cell? ⟨b, 2, none⟩ = some (.int .i64 max) := hS2
    have H2d := Lib.hid H2.out.drew
    clear hS2
    go_region_held3 (fun w' => w'.cell? ⟨w.heap.size, 0, none⟩ = some (.string a) ∧ w'.cell? ⟨w.heap.size, 1, none⟩ = some (.string c) ∧ w'.cell? ⟨b, 2, none⟩ = some (.int .i64 max)) (first | exact hS3 | exact hS4 | exact hS5)
      (first
        | (go_at_call 80; refine (size_any (a, c) _).mono ?_; rintro e w3 ⟨rfl, hB3⟩; have hS4 : w3.cell? ⟨w.heap.size, 0, none⟩ = some (.string a) ∧ w3.cell? ⟨w.heap.size, 1, none⟩ = some (.string c) ∧ w3.cell? ⟨b, 2, none⟩ = some (.int .i64 max) := ⟨(hB3.cell (p := ⟨w.heap.size, 0, none⟩) hF2).trans hS3.1, (hB3.cell (p := ⟨w.heap.size, 1, none⟩) hF2).trans hS3.2.1, (hB3.cell (p := ⟨b, 2, none⟩) hlt2).trans hS3.2.2⟩)
        | (go_at_call 81; refine (shrink_any (H2d.out.old hB3) _ hl).mono ?_; rintro e w4 ⟨rfl, h4, hM4, hSB4⟩; have hS5 : w4.cell? ⟨w.heap.size, 0, none⟩ = some (.string a) ∧ w4.cell? ⟨w.heap.size, 1, none⟩ = some (.string c) ∧ w4.cell? ⟨b, 2, none⟩ = some (.int .i64 max) := ⟨(hM4.cell (p := ⟨w.heap.size, 0, none⟩) (Nat.lt_of_lt_of_le hF2 hB3.size) (by simp only; omega)).trans hS4.1, (hM4.cell (p := ⟨w.heap.size, 1, none⟩) (Nat.lt_of_lt_of_le hF2 hB3.size) (by simp only; omega)).trans hS4.2.1, h4.c2⟩))
    rw [IntWalk.i64_left] at h4
    have HC3 := Lib.hid ((hB3.cell (p := ⟨b, 0, none⟩) hlt2).trans (HB2.out.cell (p := ⟨b, 0, none⟩) hlt))
    have hlen4 : (l.take (shrN l (wrap64 (max - sizeW (a, c))) l.length sz).1).length ≤ 1000000 := by rw [List.length_take]; omega
    have hs4 : w2.heap.size ≤ w4.heap.size := by have h8 := hB3.size; have h9 := hM4.size; rw [drew_size] at h8; omega
    have HM4 : Hid (Mod (fun k => base ≤ k) w w4) := ((Mod.ofBelow HB2.out (fun q hq hge => by omega)).drew.below hB3 (fun q hq hge => by rw [drew_size] at hge; omega)).andThen hM4 (fun q hq e => by rw [e]; exact H.out.hb)
    generalize l.take (shrN l (wrap64 (max - sizeW (a, c))) l.length sz).1 = l4 at *
    generalize (shrN l (wrap64 (max - sizeW (a, c))) l.length sz).2 = sz4 at *
    clear hM4 hB3 hS3 hS4
    have hlt4 := h4.lt
    have H4 := Lib.hid h4
    obtain ⟨⟨va, hc0, hO, hne⟩, hc1, hc2, f0, f1, f2, hm4, hs44, hbb⟩ := h4
    obtain ⟨av, capv, rfl, _⟩ := hO.slice
    have HO := Lib.hid hO
    obtain ⟨k0, k1, _⟩ := hS5
    clear hO
    go_wp2_with fail
    have hbase4 : base ≤ w4.heap.size := by omega
    have hnF : (Value.slice av l4.length capv).ownBlock ≠ some w.heap.size := by
      obtain ⟨⟨v0, z0, zO, _⟩, _⟩ := H.out
      have z1 : w1.cell? ⟨b, 0, none⟩ = some v0 := (HB1.out.cell (p := ⟨b, 0, none⟩) hlt).trans z0
      obtain ⟨v4, y0, y1⟩ := hSB4 v0.ownBlock ⟨v0, HC3.out.trans z0, rfl⟩
      obtain rfl : Value.slice av l4.length capv = v4 := Option.some.inj (hc0.symm.trans y0)
      rw [y1]
      exact fun e => by have := (zO.lt _ e).2; omega
    have hgl : ∀ k, (Value.slice av l4.length capv).ownBlock = some k → base ≤ k := fun k hk => (HO.out.lt k hk).1
    go_region_with
      (first | (go_at_call 82; refine (insert_new base _ l4 (a, c) w4 _ HO.out hlen4 hbase4 (by rfl)).mono ?_; rintro e w5 ⟨a5, n5, c5, rfl, hO5, hg5, hat5⟩; have q0 := (World.cell?_of_block (a := ⟨b, 0, none⟩) (hg5.block b (by simp; omega) (fun e => hne e.symm))).trans ((cell_alloc w4 _ b 0 hlt4).trans hc0); have qf0 := (World.frozen?_of_block (a := ⟨b, 0, none⟩) (hg5.block b (by simp; omega) (fun e => hne e.symm))).trans ((frozen_alloc w4 _ b 0 hlt4).trans f0)))
    all_goals
      have HM6 : Hid (Mod (fun k => base ≤ k) w (w5.setCell ⟨b, 0, none⟩ (.slice a5 n5 c5))) := ((HM4.out.alloc _).grown (w1 := w4.alloc (.cells #[.string a, .string c] 34)) ⟨hg5.os, hg5.tape, hg5.output, hg5.size, hg5.block⟩ (fun k hk _ => hgl k hk)).setCell (fun _ => hbb) _
      have H6 : Hid (IsTable (w5.setCell ⟨b, 0, none⟩ (.slice a5 n5 c5)) b base max ((a, c) :: l4) sz4) := IsTable.grown (w := w4.alloc (.cells #[.string a, .string c] 34)) (H4.out.old ((Below.refl _ _).alloc (Nat.le_refl _) _)) ((cell_alloc w4 _ b 0 hlt4).trans hc0) ⟨hg5.os, hg5.tape, hg5.output, hg5.size, hg5.block⟩ hO5 hat5
      have hFb : ∀ i, w5.cell? ⟨w.heap.size, i, none⟩ = w4.cell? ⟨w.heap.size, i, none⟩ := fun i => (World.cell?_of_block (a := ⟨w.heap.size, i, none⟩) (hg5.block w.heap.size (by simp; omega) (fun e => hnF e.symm))).trans (cell_alloc w4 _ w.heap.size i (by omega))
      have e0 := (World.cell?_setCell_other w5 ⟨b, 0, none⟩ ⟨w.heap.size, 0, none⟩ (.slice a5 n5 c5) (by simp <;> omega)).trans ((hFb 0).trans k0)
      have e1 := (World.cell?_setCell_other w5 ⟨b, 0, none⟩ ⟨w.heap.size, 1, none⟩ (.slice a5 n5 c5) (by simp <;> omega)).trans ((hFb 1).trans k1)
      have hs6 : w.heap.size < (w5.setCell ⟨b, 0, none⟩ (.slice a5 n5 c5)).heap.size := block_lt_of_cell e0
      clear hg5 hat5 hO5 q0 qf0 hFb k0 k1 hc0 hc1 hc2 f0 f1 f2 hne
      generalize w5.setCell ⟨b, 0, none⟩ (.slice a5 n5 c5) = w6 at *
      have e2 := H6.out.c1
      have ef := H6.out.f1
      have hb6 := H6.out.lt
      go_wp2_with fail
      go_region_with
        (first | (go_at_call 80; refine (size_any (a, c) _).mono ?_; rintro e w7 ⟨rfl, hB7⟩; have y0 := (hB7.cell (p := ⟨w.heap.size, 0, none⟩) hs6).trans e0; have y1 := (hB7.cell (p := ⟨w.heap.size, 1, none⟩) hs6).trans e1; have y2 := (hB7.cell (p := ⟨b, 1, none⟩) hb6).trans e2; have y3 := (hB7.frozen (p := ⟨b, 1, none⟩) hb6).trans ef))
    all_goals
      have H7 := Lib.hid ((H6.out.drew.old hB7).put1 (wrap64 (sz4 + sizeW (a, c))) (wrap64_bd _))
      have HM7 := Lib.hid ((HM6.out.drew.below hB7 (fun q hq hge => by rw [drew_size] at hge; omega)).setCell (p := ⟨b, 1, none⟩) (fun _ => hbb) (.int .i64 (wrap64 (sz4 + sizeW (a, c)))))
      clear hB7 y0 y1 y2 y3 e0 e1 e2 ef
      go_wp2
      go_ret
      rw [HA.out, IntWalk.i64_left (sz4 + sizeW (a, c))]
      exact ⟨rfl, H7.out, HM7.out⟩
end Go.Proofs.YtegngpingfjedaaGreatDoor.TableC
