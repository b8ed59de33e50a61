/-
  Contracts of package table, the third part, over this seat's translation.
  Conditions: the receiver's cells; the added fields in a slice of the call's own.
-/
import Derived.Test.YtbbhinhledkceaaTableB
import Derived.Test.YtbbhinhledkceaaFieldRows
import Derived.Test.YtbbhinhledkceaaFieldCat
import Derived.Test.YtbbhinhledkceaaMod
import Derived.WalkSpells
import Derived.WalkLawsBesides
import Derived.Deep.QuietTactic
import Derived.Deep.RegionHeld3
import Derived.Deep.RegionWith
import Derived.BigQuiet
import Derived.IntWalk
import Derived.Lib.Hide
namespace Go.Proofs.Ytbbhinhledkceaa.TableC
open Go.RowKit RowsK FieldRows ModL
set_option linter.unusedSimpArgs false
set_option linter.unusedVariables false

theorem len_any {w : World} {b base : Nat} {max sz : Int} {l : List Fld} (h : IsTable w b base max l sz) (hl : l.length ≤ 1000000) :
    Calls Try.prog 7 #[.pointer (some ⟨b, 0, none⟩)] w fun e w' => e = .returned (.int .i64 (12 + (l.length : Int))) ∧ Below w.heap.size w w' := by
  obtain ⟨⟨va, hc0, hO, hne⟩, hc1, hc2, f0, f1, f2, hm, hs, hbb⟩ := h
  obtain ⟨a, cap, rfl, h1, h2, _, _⟩ := hO.slice
  have hlt : b < w.heap.size := block_lt_of_cell hc1
  clear hO hc1 hc2
  have HS0 : w.drew.cell? ⟨b, 0, none⟩ = some (.slice a l.length cap) := hc0
  have hw : IntKind.i64.wrap (12 + (l.length : Int)) = 12 + (l.length : Int) := IntWalk.i64_in _ (by omega)
  generalize l.length = n at *
  go_enter Try.func7, Try.ntmps7
  go_wp2_with fail
  go_region_held3 (fun w' => w'.cell? ⟨b, 0, none⟩ = some (.slice a n cap)) (first | exact HS0 | exact c0)
    (first | (go_at_call 16; refine (always_ok _).mono ?_; rintro e w2 ⟨rfl, hO2, hB2, hs2⟩; have c0 := (hB2.cell (p := ⟨b, 0, none⟩) hlt).trans hc0))
  go_wp2
  go_ret
  exact ⟨rfl, (Below.refl w.heap.size w).drew.trans hB2⟩
/-- All fields, by their numbers. -/
def allL (l : List Fld) : List Fld := alwaysL ++ l
theorem getD_left (a l : List Fld) (k : Nat) (d : Fld) (h : k < a.length) : (a ++ l).getD k d = a[k] := by simp [List.getD, List.getElem?_append_left h, List.getElem?_eq_getElem h]
theorem getD_right (a l : List Fld) (q : Nat) (d : Fld) (h : q < l.length) : (a ++ l).getD (a.length + q) d = l[q] := by simp [List.getD, List.getElem?_append_right, h]
theorem two_cells {W : World} {F : Nat} {u0 u1 : Value} (c0 : W.cell? ⟨F, 0, none⟩ = some u0) (c1 : W.cell? ⟨F, 1, none⟩ = some u1) (v0 v1 : Value) :
    ((W.setCell ⟨F, 0, none⟩ v0).setCell ⟨F, 1, none⟩ v1).cell? ⟨F, 0, none⟩ = some v0 ∧ ((W.setCell ⟨F, 0, none⟩ v0).setCell ⟨F, 1, none⟩ v1).cell? ⟨F, 1, none⟩ = some v1 :=
  ⟨(World.cell?_setCell_other _ _ _ _ (by simp)).trans (World.cell?_setCell_same _ _ _ c0), World.cell?_setCell_same _ _ _ ((World.cell?_setCell_other _ _ _ _ (by simp)).trans c1)⟩
theorem below_two {w W : World} {F : Nat} (h : Below w.heap.size w W) (hF : w.heap.size ≤ F) (v0 v1 : Value) : Below w.heap.size w ((W.setCell ⟨F, 0, none⟩ v0).setCell ⟨F, 1, none⟩ v1) := (h.setCell hF _).setCell hF _
set_option maxRecDepth 100000 in
set_option maxHeartbeats 4000000 in
theorem get_none {w : World} {b base : Nat} {max sz : Int} {l : List Fld} (h : IsTable w b base max l sz) (hl : l.length ≤ 1000000) (i : Int) (hi : i < 1 ∨ 12 + (l.length : Int) < i) :
    Calls Try.prog 6 #[.pointer (some ⟨b, 0, none⟩), .int .i64 i] w fun e w' => e = .returned (.tuple #[fv nof, .iface 49 (.int .i64 5)]) ∧ Below w.heap.size w w' := by
  have H := Lib.hid h
  clear h
  have h' : i < 1 ∨ (1 ≤ i ∧ 12 + (l.length : Int) < i) := by omega
  clear hi
  rcases h' with h1 | ⟨h1, h2⟩
  all_goals
    go_enter Try.func6, Try.ntmps6
    go_wp2_with fail
    have hB1 : Below w.heap.size w (w.alloc (.cells #[.string ⟨#[]⟩, .string ⟨#[]⟩] 29)) := (Below.refl _ _).alloc (Nat.le_refl _) _
    have k0 : (w.alloc (.cells #[.string ⟨#[]⟩, .string ⟨#[]⟩] 29)).cell? ⟨w.heap.size, 0, none⟩ = some (.string ⟨#[]⟩) := by simp
    have k1 : (w.alloc (.cells #[.string ⟨#[]⟩, .string ⟨#[]⟩] 29)).cell? ⟨w.heap.size, 1, none⟩ = some (.string ⟨#[]⟩) := by simp
    have kf0 : (w.alloc (.cells #[.string ⟨#[]⟩, .string ⟨#[]⟩] 29)).frozen? ⟨w.heap.size, 0, none⟩ = false := by simp
    have kf1 : (w.alloc (.cells #[.string ⟨#[]⟩, .string ⟨#[]⟩] 29)).frozen? ⟨w.heap.size, 1, none⟩ = false := by simp
    have hs1 : w.heap.size < (w.alloc (.cells #[.string ⟨#[]⟩, .string ⟨#[]⟩] 29)).heap.size := by simp
    generalize w.alloc (.cells #[.string ⟨#[]⟩, .string ⟨#[]⟩] 29) = w1 at *
    have HB1 := Lib.hid hB1
    have H1 := Lib.hid (H.out.old hB1)
    clear hB1
    refine (always_ok _).mono ?_
    rintro e w2 ⟨rfl, hO2, hB2, hs2⟩
    have H2 := Lib.hid (H1.out.old hB2)
    have HB2 := Lib.hid (HB1.out.trans (hB2.mono (by omega)))
    have x0 := (hB2.cell (p := ⟨w.heap.size, 0, none⟩) hs1).trans k0
    have x1 := (hB2.cell (p := ⟨w.heap.size, 1, none⟩) hs1).trans k1
    have xf0 := (hB2.frozen (p := ⟨w.heap.size, 0, none⟩) hs1).trans kf0
    have xf1 := (hB2.frozen (p := ⟨w.heap.size, 1, none⟩) hs1).trans kf1
    have hlt2 : w.heap.size < w2.heap.size := by omega
    clear k0 k1 kf0 kf1 hB2 hO2
    go_wp2_with (first
      | (go_at_call 7; refine (len_any H2.out hl).mono ?_; rintro e w3 ⟨rfl, hB3⟩; have y0 := (hB3.cell (p := ⟨w.heap.size, 0, none⟩) hlt2).trans x0; have y1 := (hB3.cell (p := ⟨w.heap.size, 1, none⟩) hlt2).trans x1; have yf0 := (hB3.frozen (p := ⟨w.heap.size, 0, none⟩) hlt2).trans xf0; have yf1 := (hB3.frozen (p := ⟨w.heap.size, 1, none⟩) hlt2).trans xf1)
      | fail)
    first
      | (obtain ⟨z0, z1⟩ := two_cells y0 y1 (.string ⟨#[]⟩) (.string ⟨#[]⟩)
         refine bodyPost_ret (v := .tuple #[.agg #[.string ⟨#[]⟩, .string ⟨#[]⟩], .iface 49 (.int .i64 5)]) (by simp [results, Try.results6, go_sem, z0, z1]) rfl ⟨rfl, ?_⟩
         exact below_two (HB2.out.trans (hB3.mono (by omega))) (Nat.le_refl _) _ _)
      | (obtain ⟨z0, z1⟩ := two_cells x0 x1 (.string ⟨#[]⟩) (.string ⟨#[]⟩)
         refine bodyPost_ret (v := .tuple #[.agg #[.string ⟨#[]⟩, .string ⟨#[]⟩], .iface 49 (.int .i64 5)]) (by simp [results, Try.results6, go_sem, z0, z1]) rfl ⟨rfl, ?_⟩
         exact below_two HB2.out (Nat.le_refl _) _ _)
set_option maxRecDepth 100000 in
set_option maxHeartbeats 4000000 in
theorem get_at {w : World} {b base : Nat} {max sz : Int} {l : List Fld} (h : IsTable w b base max l sz) (hl : l.length ≤ 1000000) (k : Nat) (hk : k < 12 + l.length) :
    Calls Try.prog 6 #[.pointer (some ⟨b, 0, none⟩), .int .i64 ((k : Int) + 1)] w fun e w' => e = .returned (.tuple #[fv ((allL l).getD k nof), .nilIface]) ∧ Below w.heap.size w w' := by
  have H := Lib.hid h
  have hlt := h.lt
  obtain ⟨⟨va, hc0, hO, hne⟩, _⟩ := id h
  have HO := Lib.hid hO
  obtain ⟨av, capv, rfl, hv1, hv2, _⟩ := hO.slice
  clear h hO
  have HLN : Hid (alwaysL.length = 12) := rfl
  by_cases hk12 : k < 12
  · obtain ⟨x, hx⟩ : ∃ x, (allL l).getD k nof = x := ⟨_, rfl⟩
    have hxa : x = alwaysL[k]'hk12 := by rw [← hx]; exact getD_left alwaysL l k nof hk12
    rw [hx]
    obtain ⟨s1, s2⟩ := x
    have i1 : (1 : Int) ≤ (k : Int) + 1 := by omega
    have i2 : ¬ (12 + (l.length : Int) < (k : Int) + 1) := by omega
    have i3 : (k : Int) + 1 ≤ 12 := by omega
    have i4 : IntKind.i64.wrap ((k : Int) + 1 - 1) = (k : Int) := by rw [IntWalk.i64_in _ (by omega)]; omega
    have i5 : (0 : Int) ≤ (k : Int) := by omega
    have i6 : (k : Int) < 12 := by omega
    go_enter Try.func6, Try.ntmps6
    go_wp2_with fail
    have hB1 : Below w.heap.size w (w.alloc (.cells #[.string ⟨#[]⟩, .string ⟨#[]⟩] 29)) := (Below.refl _ _).alloc (Nat.le_refl _) _
    have k0 : (w.alloc (.cells #[.string ⟨#[]⟩, .string ⟨#[]⟩] 29)).cell? ⟨w.heap.size, 0, none⟩ = some (.string ⟨#[]⟩) := by simp
    have k1 : (w.alloc (.cells #[.string ⟨#[]⟩, .string ⟨#[]⟩] 29)).cell? ⟨w.heap.size, 1, none⟩ = some (.string ⟨#[]⟩) := by simp
    have kf0 : (w.alloc (.cells #[.string ⟨#[]⟩, .string ⟨#[]⟩] 29)).frozen? ⟨w.heap.size, 0, none⟩ = false := by simp
    have kf1 : (w.alloc (.cells #[.string ⟨#[]⟩, .string ⟨#[]⟩] 29)).frozen? ⟨w.heap.size, 1, none⟩ = false := by simp
    have hs1 : w.heap.size < (w.alloc (.cells #[.string ⟨#[]⟩, .string ⟨#[]⟩] 29)).heap.size := by simp
    generalize w.alloc (.cells #[.string ⟨#[]⟩, .string ⟨#[]⟩] 29) = w1 at *
    have HB1 := Lib.hid hB1
    have H1 := Lib.hid (H.out.old hB1)
    clear hB1
    refine (always_ok _).mono ?_
    rintro e w2 ⟨rfl, hO2, hB2, hs2⟩
    have H2 := Lib.hid (H1.out.old hB2)
    have HB2 := Lib.hid (HB1.out.trans (hB2.mono (by omega)))
    have x0 := (hB2.cell (p := ⟨w.heap.size, 0, none⟩) hs1).trans k0
    have x1 := (hB2.cell (p := ⟨w.heap.size, 1, none⟩) hs1).trans k1
    have xf0 := (hB2.frozen (p := ⟨w.heap.size, 0, none⟩) hs1).trans kf0
    have xf1 := (hB2.frozen (p := ⟨w.heap.size, 1, none⟩) hs1).trans kf1
    have hlt2 : w.heap.size < w2.heap.size := by omega
    have hg2 : w1.heap.size < w2.heap.size := by omega
    obtain ⟨g, cap, e, _, _, _, _, hel⟩ := hO2.slice1 12 rfl (by decide)
    simp only [Value.slice.injEq, Option.some.injEq, Addr.mk.injEq, and_true, true_and] at e
    obtain ⟨rfl, rfl⟩ := e
    have m0 := hel k hk12 0 (by decide)
    have m1 := hel k hk12 1 (by decide)
    rw [← hxa] at m0 m1
    replace m0 : w2.cell? ⟨w1.heap.size, k * 2, none⟩ = some (.string s1) := m0
    replace m1 : w2.cell? ⟨w1.heap.size, k * 2 + 1, none⟩ = some (.string s2) := m1
    clear k0 k1 kf0 kf1 hB2 hO2 hel hc0
    go_wp2_with (first
      | (go_at_call 7; refine (len_any H2.out hl).mono ?_; rintro e w3 ⟨rfl, hB3⟩; have y0 := (hB3.cell (p := ⟨w.heap.size, 0, none⟩) hlt2).trans x0; have y1 := (hB3.cell (p := ⟨w.heap.size, 1, none⟩) hlt2).trans x1; have yf0 := (hB3.frozen (p := ⟨w.heap.size, 0, none⟩) hlt2).trans xf0; have yf1 := (hB3.frozen (p := ⟨w.heap.size, 1, none⟩) hlt2).trans xf1; have p0 := (hB3.cell (p := ⟨w1.heap.size, k * 2, none⟩) hg2).trans m0; have p1 := (hB3.cell (p := ⟨w1.heap.size, k * 2 + 1, none⟩) hg2).trans m1)
      | fail)
    obtain ⟨z0, z1⟩ := two_cells y0 y1 (.string s1) (.string s2)
    refine bodyPost_ret (v := .tuple #[.agg #[.string s1, .string s2], .nilIface]) (by simp [results, Try.results6, go_sem, z0, z1]) rfl ⟨rfl, ?_⟩
    exact below_two (HB2.out.trans (hB3.mono (by omega))) (Nat.le_refl _) _ _
  · obtain ⟨x, hx⟩ : ∃ x, (allL l).getD k nof = x := ⟨_, rfl⟩
    obtain ⟨q, rfl⟩ : ∃ q, k = 12 + q := ⟨k - 12, by omega⟩
    have hq : q < l.length := by omega
    have hxa : x = l[q] := by rw [← hx]; exact getD_right alwaysL l q nof hq
    rw [hx]
    obtain ⟨s1, s2⟩ := x
    have i1 : (1 : Int) ≤ ((12 + q : Nat) : Int) + 1 := by omega
    have i2 : ¬ (12 + (l.length : Int) < ((12 + q : Nat) : Int) + 1) := by omega
    have i3 : ¬ (((12 + q : Nat) : Int) + 1 ≤ 12) := by omega
    have i0 : ((12 + q : Nat) : Int) + 1 = (q : Int) + 13 := by omega
    have i4 : IntKind.i64.wrap ((q : Int) + 13 - 1) = (q : Int) + 12 := by rw [IntWalk.i64_in _ (by omega)]; omega
    have i7 : IntKind.i64.wrap ((q : Int) + 12 - 12) = (q : Int) := by rw [IntWalk.i64_in _ (by omega)]; omega
    rw [i0] at i1 i2 i3 ⊢
    have i5 : (0 : Int) ≤ (q : Int) := by omega
    have i6 : (q : Int) < (l.length : Int) := by omega
    obtain ⟨g, cap, e, _, _, hbg, hglt, hel⟩ := HO.out.slice1 l.length rfl (by omega)
    simp only [Value.slice.injEq, true_and] at e
    obtain ⟨rfl, rfl⟩ := e
    have m0 := hel q hq 0 (by decide)
    have m1 := hel q hq 1 (by decide)
    rw [← hxa] at m0 m1
    replace m0 : w.cell? ⟨g, q * 2, none⟩ = some (.string s1) := m0
    replace m1 : w.cell? ⟨g, q * 2 + 1, none⟩ = some (.string s2) := m1
    clear hel
    go_enter Try.func6, Try.ntmps6
    go_wp2_with fail
    have hB1 : Below w.heap.size w (w.alloc (.cells #[.string ⟨#[]⟩, .string ⟨#[]⟩] 29)) := (Below.refl _ _).alloc (Nat.le_refl _) _
    have k0 : (w.alloc (.cells #[.string ⟨#[]⟩, .string ⟨#[]⟩] 29)).cell? ⟨w.heap.size, 0, none⟩ = some (.string ⟨#[]⟩) := by simp
    have k1 : (w.alloc (.cells #[.string ⟨#[]⟩, .string ⟨#[]⟩] 29)).cell? ⟨w.heap.size, 1, none⟩ = some (.string ⟨#[]⟩) := by simp
    have kf0 : (w.alloc (.cells #[.string ⟨#[]⟩, .string ⟨#[]⟩] 29)).frozen? ⟨w.heap.size, 0, none⟩ = false := by simp
    have kf1 : (w.alloc (.cells #[.string ⟨#[]⟩, .string ⟨#[]⟩] 29)).frozen? ⟨w.heap.size, 1, none⟩ = false := by simp
    have hs1 : w.heap.size < (w.alloc (.cells #[.string ⟨#[]⟩, .string ⟨#[]⟩] 29)).heap.size := by simp
    generalize w.alloc (.cells #[.string ⟨#[]⟩, .string ⟨#[]⟩] 29) = w1 at *
    have HB1 := Lib.hid hB1
    have H1 := Lib.hid (H.out.old hB1)
    clear hB1
    refine (always_ok _).mono ?_
    rintro e w2 ⟨rfl, hO2, hB2, hs2⟩
    have H2 := Lib.hid (H1.out.old hB2)
    have HB2 := Lib.hid (HB1.out.trans (hB2.mono (by omega)))
    have x0 := (hB2.cell (p := ⟨w.heap.size, 0, none⟩) hs1).trans k0
    have x1 := (hB2.cell (p := ⟨w.heap.size, 1, none⟩) hs1).trans k1
    have xf0 := (hB2.frozen (p := ⟨w.heap.size, 0, none⟩) hs1).trans kf0
    have xf1 := (hB2.frozen (p := ⟨w.heap.size, 1, none⟩) hs1).trans kf1
    have hlt2 : w.heap.size < w2.heap.size := by omega
    have hg2 : w1.heap.size < w2.heap.size := by omega
    have p0 := (HB2.out.cell (p := ⟨g, q * 2, none⟩) hglt).trans m0
    have p1 := (HB2.out.cell (p := ⟨g, q * 2 + 1, none⟩) hglt).trans m1
    have p2 := (HB2.out.cell (p := ⟨b, 0, none⟩) hlt).trans hc0
    have hgl2 : g < w2.heap.size := by omega
    have hbl2 : b < w2.heap.size := by omega
    clear k0 k1 kf0 kf1 hB2 hO2 hc0 m0 m1
    go_wp2_with (first
      | (go_at_call 7; refine (len_any H2.out hl).mono ?_; rintro e w3 ⟨rfl, hB3⟩; have y0 := (hB3.cell (p := ⟨w.heap.size, 0, none⟩) hlt2).trans x0; have y1 := (hB3.cell (p := ⟨w.heap.size, 1, none⟩) hlt2).trans x1; have yf0 := (hB3.frozen (p := ⟨w.heap.size, 0, none⟩) hlt2).trans xf0; have yf1 := (hB3.frozen (p := ⟨w.heap.size, 1, none⟩) hlt2).trans xf1; have q0 := (hB3.cell (p := ⟨g, q * 2, none⟩) hgl2).trans p0; have q1 := (hB3.cell (p := ⟨g, q * 2 + 1, none⟩) hgl2).trans p1; have q2 := (hB3.cell (p := ⟨b, 0, none⟩) hbl2).trans p2)
      | fail)
    obtain ⟨z0, z1⟩ := two_cells y0 y1 (.string s1) (.string s2)
    refine bodyPost_ret (v := .tuple #[.agg #[.string s1, .string s2], .nilIface]) (by simp [results, Try.results6, go_sem, z0, z1]) rfl ⟨rfl, ?_⟩
    exact below_two (HB2.out.trans (hB3.mono (by omega))) (Nat.le_refl _) _ _
end Go.Proofs.Ytbbhinhledkceaa.TableC
