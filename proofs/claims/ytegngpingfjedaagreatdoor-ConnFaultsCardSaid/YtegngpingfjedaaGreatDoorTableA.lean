/-
  Contracts of package table over this seat's translation.
  Conditions: the receiver's cells; the added fields in a slice of the call's own.
-/
import Derived.Test.YtegngpingfjedaaGreatDoorFieldRows
import Derived.Test.YtegngpingfjedaaGreatDoorFieldCat
import Derived.Test.YtegngpingfjedaaGreatDoorMod
import Derived.WalkSpells
import Derived.WalkLawsBesides
import Derived.Deep.QuietTactic
import Derived.Deep.RegionHeld3
import Derived.Deep.RegionWith
import Derived.BigQuiet
import Derived.IntWalk
import Derived.Lib.Hide
namespace Go.Proofs.YtegngpingfjedaaGreatDoor.TableC
open Go.RowKit RowsK FieldRows ModL
set_option linter.unusedSimpArgs false
set_option linter.unusedVariables false

def s (l : List UInt8) : ByteArray := ⟨l.toArray⟩
/-- The fields that are always there. -/
def alwaysL : List Fld := [(⟨#[58, 109, 101, 116, 104, 111, 100]⟩, ⟨#[71, 69, 84]⟩), (⟨#[58, 109, 101, 116, 104, 111, 100]⟩, ⟨#[80, 79, 83, 84]⟩), (⟨#[58, 112, 97, 116, 104]⟩, ⟨#[47]⟩), (⟨#[58, 104, 111, 115, 116]⟩, ⟨#[]⟩), (⟨#[58, 99, 111, 100, 101]⟩, ⟨#[50, 48, 48]⟩), (⟨#[58, 99, 111, 100, 101]⟩, ⟨#[52, 48, 52]⟩),
  (⟨#[108, 101, 110, 103, 116, 104]⟩, ⟨#[]⟩), (⟨#[116, 121, 112, 101]⟩, ⟨#[116, 101, 120, 116]⟩), (⟨#[99, 111, 111, 107, 105, 101]⟩, ⟨#[]⟩), (⟨#[97, 99, 99, 101, 112, 116]⟩, ⟨#[42]⟩), (⟨#[100, 97, 116, 101]⟩, ⟨#[]⟩), (⟨#[115, 101, 114, 118, 101, 114]⟩, ⟨#[]⟩)]
def fv (f : Fld) : Value := .agg #[.string f.1, .string f.2]
def sizeW (f : Fld) : Int := wrap64 (wrap64 (f.1.size + f.2.size) + 32)
theorem wrap64_bd (x : Int) : -9223372036854775808 ≤ wrap64 x ∧ wrap64 x ≤ 9223372036854775807 := by unfold wrap64; omega
theorem sizeW_I64 (f : Fld) : -9223372036854775808 ≤ sizeW f ∧ sizeW f ≤ 9223372036854775807 := by unfold sizeW wrap64; omega
def nof : Fld := (⟨#[]⟩, ⟨#[]⟩)
/-- How many stay, and what they weigh. -/
def shrN (l : List Fld) (most : Int) : Nat → Int → Nat × Int
  | 0, sz => (0, sz)
  | k + 1, sz => if most < sz then shrN l most k (wrap64 (sz - sizeW (l.getD k nof))) else (k + 1, sz)
theorem shrN_le (l : List Fld) (most : Int) (k : Nat) (sz : Int) : (shrN l most k sz).1 ≤ k := by
  induction k generalizing sz with
  | zero => exact Nat.le_refl _
  | succ k ih => simp only [shrN]; split
                 · exact Nat.le_succ_of_le (ih _)
                 · exact Nat.le_refl _
/-- A table at block b; its fields in a slice of the call's own, from block base on. -/
structure IsTable (w : World) (b base : Nat) (max : Int) (l : List Fld) (sz : Int) : Prop where
  c0 : ∃ va, w.cell? ⟨b, 0, none⟩ = some va ∧ Own encF w base 34 va l ∧ va.ownBlock ≠ some b
  c1 : w.cell? ⟨b, 1, none⟩ = some (.int .i64 sz)
  c2 : w.cell? ⟨b, 2, none⟩ = some (.int .i64 max)
  f0 : w.frozen? ⟨b, 0, none⟩ = false
  f1 : w.frozen? ⟨b, 1, none⟩ = false
  f2 : w.frozen? ⟨b, 2, none⟩ = false
  hm : 0 ≤ max ∧ max ≤ 4096
  hs : -9223372036854775808 ≤ sz ∧ sz ≤ 9223372036854775807
  hb : base ≤ b
theorem IsTable.lt {w : World} {b base : Nat} {max sz : Int} {l : List Fld} (h : IsTable w b base max l sz) : b < w.heap.size := block_lt_of_cell h.c1
/-- The fields' block at ⟨b, 0⟩. -/
def SameB (b : Nat) (w w' : World) : Prop := ∀ B, (∃ va, w.cell? ⟨b, 0, none⟩ = some va ∧ va.ownBlock = B) → ∃ va, w'.cell? ⟨b, 0, none⟩ = some va ∧ va.ownBlock = B
theorem IsTable.old {w w' : World} {b base : Nat} {max sz : Int} {l : List Fld} (h : IsTable w b base max l sz) (hB : Below w.heap.size w w') : IsTable w' b base max l sz := by
  have hlt := h.lt
  obtain ⟨⟨va, hc0, hO, hne⟩, hc1, hc2, f0, f1, f2, hm, hs, hbb⟩ := h
  exact ⟨⟨va, (hB.cell (p := ⟨b, 0, none⟩) hlt).trans hc0, hO.of_block fun q hq => hB.block q (hO.lt q hq).2, hne⟩, (hB.cell (p := ⟨b, 1, none⟩) hlt).trans hc1, (hB.cell (p := ⟨b, 2, none⟩) hlt).trans hc2,
    (hB.frozen (p := ⟨b, 0, none⟩) hlt).trans f0, (hB.frozen (p := ⟨b, 1, none⟩) hlt).trans f1, (hB.frozen (p := ⟨b, 2, none⟩) hlt).trans f2, hm, hs, hbb⟩
theorem IsTable.drew {w : World} {b base : Nat} {max sz : Int} {l : List Fld} (h : IsTable w b base max l sz) : IsTable w.drew b base max l sz := h.old ⟨rfl, rfl, rfl, Nat.le_refl _, fun _ _ => rfl⟩
set_option maxRecDepth 100000 in
set_option maxHeartbeats 4000000 in
theorem always_ok (w : World) : Calls Tryz.prog 78 #[] w fun e w' => e = .returned (.slice (some ⟨w.heap.size, 0, none⟩) 12 12) ∧ Own encF w' w.heap.size 34 (.slice (some ⟨w.heap.size, 0, none⟩) 12 12) alwaysL ∧ Below w.heap.size w w' ∧ w'.heap.size = w.heap.size + 1 := by
  go_enter Tryz.func78, Tryz.ntmps78
  go_wp2
  go_ret
  exact ⟨rfl, Own.lit w _ alwaysL (Nat.le_refl _) (by decide) rfl, (Below.refl _ _).alloc (Nat.le_refl _) _, by simp⟩
theorem right_any (m : Int) (w : World) : Calls Tryz.prog 74 #[.int .i64 m] w fun e w' => e = .returned (.bool (decide (0 ≤ m ∧ m ≤ 4096))) ∧ w = w' := by
  have h : m < 0 ∨ (0 ≤ m ∧ m ≤ 4096) ∨ (0 ≤ m ∧ 4096 < m) := by omega
  rcases h with h1 | ⟨h1, h2⟩ | ⟨h1, h2⟩
  all_goals
    go_enter Tryz.func74, Tryz.ntmps74
    go_wp2
    go_ret
    exact ⟨by simp; try omega, rfl⟩
theorem size_any (f : Fld) (w : World) : Calls Tryz.prog 80 #[fv f] w fun e w' => e = .returned (.int .i64 (sizeW f)) ∧ Below w.heap.size w w' := by
  obtain ⟨a, b⟩ := f
  simp only [fv]
  go_enter Tryz.func80, Tryz.ntmps80
  go_wp2
  go_ret
  exact ⟨rfl, (Below.refl _ _).alloc (Nat.le_refl _) _⟩
theorem new_bad (m : Int) (w : World) (h : m < 0 ∨ 4096 < m) : Calls Tryz.prog 36 #[.int .i64 m] w fun e w' => e = .returned (.tuple #[.pointer none, .iface 83 (.int .i64 1)]) ∧ w = w' := by
  have hd : decide (0 ≤ m ∧ m ≤ 4096) = false := by simp; omega
  have HR := Lib.hid (right_any m w)
  rw [hd] at HR
  clear hd h
  go_enter Tryz.func36, Tryz.ntmps36
  go_wp2_with (go_at_call 74; refine HR.out.mono ?_; rintro e w' ⟨rfl, rfl⟩)
  go_ret2
  exact ⟨rfl, rfl⟩
theorem new_ok (m : Int) (w : World) (h : 0 ≤ m ∧ m ≤ 4096) : Calls Tryz.prog 36 #[.int .i64 m] w fun e w' => e = .returned (.tuple #[.pointer (some ⟨w.heap.size, 0, none⟩), .nilIface]) ∧ IsTable w' w.heap.size w.heap.size m [] 0 ∧ Below w.heap.size w w' := by
  have hd : decide (0 ≤ m ∧ m ≤ 4096) = true := by simp; omega
  have HR := Lib.hid (right_any m w)
  rw [hd] at HR
  have HH := Lib.hid h
  clear hd h
  go_enter Tryz.func36, Tryz.ntmps36
  go_wp2_with (go_at_call 74; refine HR.out.mono ?_; rintro e w' ⟨rfl, rfl⟩)
  go_ret2
  exact ⟨rfl, ⟨⟨.slice none 0 0, by simp, Own.nil _ _ _ _, by simp [Value.ownBlock]⟩, by simp, by simp, by simp, by simp, by simp, HH.out, by omega, Nat.le_refl _⟩, (Below.refl _ _).alloc (Nat.le_refl _) _⟩
theorem frozen_set (w : World) (a p : Addr) (v : Value) : (w.setCell a v).frozen? p = w.frozen? p := by simp
/-- The added fields and what they weigh, written anew. -/
theorem IsTable.write {w : World} {b base : Nat} {max s2 : Int} {l : List Fld} {v0 v1 va : Value} (g0 : w.cell? ⟨b, 0, none⟩ = some v0) (g1 : w.cell? ⟨b, 1, none⟩ = some v1) (g2 : w.cell? ⟨b, 2, none⟩ = some (.int .i64 max))
    (f0 : w.frozen? ⟨b, 0, none⟩ = false) (f1 : w.frozen? ⟨b, 1, none⟩ = false) (f2 : w.frozen? ⟨b, 2, none⟩ = false) (hO : Own encF w base 34 va l) (hne : va.ownBlock ≠ some b) (hm : 0 ≤ max ∧ max ≤ 4096) (hs : -9223372036854775808 ≤ s2 ∧ s2 ≤ 9223372036854775807) (hb : base ≤ b) :
    IsTable ((w.setCell ⟨b, 1, none⟩ (.int .i64 s2)).setCell ⟨b, 0, none⟩ va) b base max l s2 ∧ IsTable ((w.setCell ⟨b, 0, none⟩ va).setCell ⟨b, 1, none⟩ (.int .i64 s2)) b base max l s2 := by
  have n1 : ∀ v, (w.setCell ⟨b, 1, none⟩ v).cell? ⟨b, 0, none⟩ = some v0 := fun v => (World.cell?_setCell_other _ _ _ _ (by simp)).trans g0
  have n2 : ∀ v, (w.setCell ⟨b, 0, none⟩ v).cell? ⟨b, 1, none⟩ = some v1 := fun v => (World.cell?_setCell_other _ _ _ _ (by simp)).trans g1
  constructor
  · exact ⟨⟨va, World.cell?_setCell_same _ _ _ (n1 _), (hO.setCell _ _ hne).setCell _ _ hne, hne⟩, (World.cell?_setCell_other _ _ _ _ (by simp)).trans (World.cell?_setCell_same _ _ _ g1), (World.cell?_setCell_other _ _ _ _ (by simp)).trans ((World.cell?_setCell_other _ _ _ _ (by simp)).trans g2),
      by rw [frozen_set, frozen_set]; exact f0, by rw [frozen_set, frozen_set]; exact f1, by rw [frozen_set, frozen_set]; exact f2, hm, hs, hb⟩
  · exact ⟨⟨va, (World.cell?_setCell_other _ _ _ _ (by simp)).trans (World.cell?_setCell_same _ _ _ g0), (hO.setCell _ _ hne).setCell _ _ hne, hne⟩, World.cell?_setCell_same _ _ _ (n2 _), (World.cell?_setCell_other _ _ _ _ (by simp)).trans ((World.cell?_setCell_other _ _ _ _ (by simp)).trans g2),
      by rw [frozen_set, frozen_set]; exact f0, by rw [frozen_set, frozen_set]; exact f1, by rw [frozen_set, frozen_set]; exact f2, hm, hs, hb⟩
theorem own_same {g q n c : Nat} (h : (Value.slice (some ⟨g, 0, none⟩) n c).ownBlock = some q) : q = g := by simpa [Value.ownBlock] using h.symm
set_option maxRecDepth 100000 in
set_option maxHeartbeats 4000000 in
theorem shrink_any {w : World} {b base : Nat} {max sz : Int} {l : List Fld} (h : IsTable w b base max l sz) (most : Int) (hl : l.length ≤ 1000000) :
    Calls Tryz.prog 81 #[.pointer (some ⟨b, 0, none⟩), .int .i64 most] w fun e w' => e = .returned (.tuple #[]) ∧ IsTable w' b base max (l.take (shrN l most l.length sz).1) (shrN l most l.length sz).2 ∧ Mod (fun k => k = b) w w' ∧ SameB b w w' := by
  have H := Lib.hid h
  have hlt := h.lt
  clear h
  go_enter Tryz.func81, Tryz.ntmps81
  go_wp2_with fail
  go_loopw [] (fun wr => ∃ (k : Nat) (s : Int), k ≤ l.length ∧ IsTable wr b base max (l.take k) s ∧ Hid (shrN l most k s = shrN l most l.length sz) ∧ Mod (fun x => x = b) w wr ∧ Hid (SameB b w wr)) (fun wr => match wr.cell? ⟨b, 0, none⟩ with | some (.slice _ n _) => n | _ => 0)
  case atStart => exact ⟨l.length, sz, Nat.le_refl _, by rw [List.take_length]; exact H.out, rfl, Mod.refl _ _, fun B h => h⟩
  case round =>
    obtain ⟨k, s, hk, hI, HS, hM, HSB⟩ := hrel
    have hlt2 : b < wr.heap.size := hI.lt
    obtain ⟨⟨va, hc0, hO, hne⟩, hc1, hc2, f0, f1, f2, hm, hs, hbb⟩ := hI
    cases k with
    | zero =>
      have hO0 : Own encF wr base 34 va [] := by simpa using hO
      obtain ⟨a, cap, rfl, hcap⟩ := hO0.slice0
      have HSS := HS.out
      simp only [shrN] at HSS
      have HX := Lib.hid HSS
      have HI : Hid (IsTable wr b base max (l.take 0) s) := ⟨⟨_, hc0, hO, hne⟩, hc1, hc2, f0, f1, f2, hm, hs, hbb⟩
      have HM := Lib.hid hM
      clear HSS hO hO0 HS hM
      by_cases hlt3 : most < s
      all_goals
        go_wp2_with fail
        go_end0
        exact ⟨rfl, by rw [← HX.out]; exact HI.out, HM.out, HSB.out⟩
    | succ k =>
      have hlen : (l.take (k + 1)).length = k + 1 := by rw [List.length_take]; omega
      obtain ⟨g, cap, rfl, hcap1, hcap2, hbg, hglt, hel⟩ := hO.slice1 (k + 1) hlen (by omega)
      have HO := Lib.hid hO
      have HM := Lib.hid hM
      have HSS := HS.out
      simp only [shrN] at HSS
      by_cases hlt3 : most < s
      · rw [if_pos hlt3] at HSS
        have HX := Lib.hid HSS
        have hx0 := hel k (by omega) 0 (by decide)
        have hx1 := hel k (by omega) 1 (by decide)
        have hgx : (l.take (k + 1))[k]'(by omega) = l.getD k nof := by simp [List.getD, show k < l.length by omega]
        rw [hgx] at hx0 hx1
        replace hx0 : wr.cell? ⟨g, k * 2, none⟩ = some (.string (l.getD k nof).1) := hx0
        replace hx1 : wr.cell? ⟨g, k * 2 + 1, none⟩ = some (.string (l.getD k nof).2) := hx1
        generalize l.getD k nof = x at *
        obtain ⟨x1, x2⟩ := x
        simp only at hx0 hx1
        have hgb : g ≠ b := fun e => hne (by rw [e]; rfl)
        clear hO hM HSS HS hel hgx
        have F0 : wr.drew.frozen? ⟨b, 0, none⟩ = false := f0
        have F1 : wr.drew.frozen? ⟨b, 1, none⟩ = false := f1
        have HS0 : wr.drew.cell? ⟨b, 0, none⟩ = some (.slice (some ⟨g, 0, none⟩) (k + 1) cap) ∧ wr.drew.cell? ⟨b, 1, none⟩ = some (.int .i64 s) ∧ wr.drew.cell? ⟨g, k * 2, none⟩ = some (.string x1) ∧ wr.drew.cell? ⟨g, k * 2 + 1, none⟩ = some (.string x2) ∧ wr.drew.frozen? ⟨b, 1, none⟩ = false := ⟨hc0, hc1, hx0, hx1, f1⟩
        have d2 : (0 : Int) ≤ (k : Int) := by omega
        have d3 : (k : Int) < ((k + 1 : Nat) : Int) := by omega
        have d4 : (k : Int) < (k : Int) + 1 := by omega
        go_wp2_with fail
        go_region_with
          (first | (go_at_call 80; refine (size_any (x1, x2) _).mono ?_; rintro e w2 ⟨rfl, hB2⟩; have hS2 : w2.cell? ⟨b, 0, none⟩ = some (.slice (some ⟨g, 0, none⟩) (k + 1) cap) ∧ w2.cell? ⟨b, 1, none⟩ = some (.int .i64 s) ∧ w2.cell? ⟨g, k * 2, none⟩ = some (.string x1) ∧ w2.cell? ⟨g, k * 2 + 1, none⟩ = some (.string x2) ∧ w2.frozen? ⟨b, 1, none⟩ = false := ⟨(hB2.cell (p := ⟨b, 0, none⟩) hlt2).trans HS0.1, (hB2.cell (p := ⟨b, 1, none⟩) hlt2).trans HS0.2.1, (hB2.cell (p := ⟨g, k * 2, none⟩) hglt).trans HS0.2.2.1, (hB2.cell (p := ⟨g, k * 2 + 1, none⟩) hglt).trans HS0.2.2.2.1, (hB2.frozen (p := ⟨b, 1, none⟩) hlt2).trans f1⟩))
        all_goals
          obtain ⟨g0, g1, _, _, g4⟩ := hS2
          have g5 : w2.frozen? ⟨b, 0, none⟩ = false := (hB2.frozen (p := ⟨b, 0, none⟩) hlt2).trans f0
          have g6 : w2.frozen? ⟨b, 2, none⟩ = false := (hB2.frozen (p := ⟨b, 2, none⟩) hlt2).trans f2
          have g7 : w2.cell? ⟨b, 2, none⟩ = some (.int .i64 max) := (hB2.cell (p := ⟨b, 2, none⟩) hlt2).trans hc2
          have HO2 : Hid (Own encF w2 base 34 (.slice (some ⟨g, 0, none⟩) (k + 1) cap) (l.take (k + 1))) := HO.out.of_block fun q hq => hB2.block q (by rw [own_same hq]; exact hglt)
          have HM2 : Hid (Mod (fun x => x = b) w w2) := HM.out.drew.below hB2 (fun q hq hge => by have h1 := HM.out.size; have h2 : wr.heap.size ≤ q := hge; omega)
          have hs2 : wr.heap.size ≤ w2.heap.size := hB2.size
          have HC0 := Lib.hid hc0
          clear hB2 hx0 hx1 HS0 hc0 hc1 hc2 f0 f1 f2 F0 F1 HO HM
          go_wp2
          go_roundw
          case measure =>
            rw [World.cell?_setCell_same _ _ _ ((World.cell?_setCell_other _ _ _ _ (by simp)).trans g0), HC0.out]
            exact Nat.lt_succ_self k
          have hcut := HO2.out.cut k (by rw [hlen]; omega) (by simp)
          rw [List.take_take, Nat.min_eq_left (Nat.le_succ k)] at hcut
          refine ⟨k, wrap64 (s - sizeW (x1, x2)), by omega, ?_, HX.out, (HM2.out.setCell (fun _ => rfl) _).setCell (fun _ => rfl) _, fun B h => ?_⟩
          rotate_left
          · obtain ⟨va, e1, e2⟩ := HSB.out B h
            obtain rfl : Value.slice (some ⟨g, 0, none⟩) (k + 1) cap = va := Option.some.inj (HC0.out.symm.trans e1)
            exact ⟨_, World.cell?_setCell_same _ _ _ ((World.cell?_setCell_other _ _ _ _ (by simp)).trans g0), e2⟩
          exact (IsTable.write (s2 := wrap64 (s - sizeW (x1, x2))) g0 g1 g7 g5 g4 g6 hcut (by simpa [Value.ownBlock] using hgb) hm (wrap64_bd _) hbb).1
      · rw [if_neg hlt3] at HSS
        have HX := Lib.hid HSS
        have HI : Hid (IsTable wr b base max (l.take (k + 1)) s) := ⟨⟨_, hc0, hO, hne⟩, hc1, hc2, f0, f1, f2, hm, hs, hbb⟩
        clear hO hM HSS HS hel
        go_wp2_with fail
        go_end0
        exact ⟨rfl, by rw [← HX.out]; exact HI.out, HM.out, HSB.out⟩
end Go.Proofs.YtegngpingfjedaaGreatDoor.TableC
