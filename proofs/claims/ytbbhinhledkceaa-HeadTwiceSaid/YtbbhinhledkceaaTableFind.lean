/-
  Contracts of package table, Find, over this seat's translation.
  Conditions: the receiver's cells; the added fields in a slice of the call's own.
-/
import Derived.Test.YtbbhinhledkceaaTable
import Derived.Test.YtbbhinhledkceaaFieldRows
import Derived.Test.YtbbhinhledkceaaFieldCat
import Derived.Test.YtbbhinhledkceaaMod
import Derived.WalkSpells
import Derived.WalkLawsBesides
import Derived.Deep.QuietTactic
import Derived.Deep.RegionHeld3
import Derived.Deep.RegionWith
import Derived.BigQuiet
import Derived.IntWalk
import Derived.Lib.Hide
namespace Go.Proofs.Ytbbhinhledkceaa.TableC
open Go.RowKit RowsK FieldRows ModL
set_option linter.unusedSimpArgs false
set_option linter.unusedVariables false

/-- The number of the first that p holds of; 0: there is none. -/
def fst (p : Fld → Bool) (L : List Fld) : Nat := match L.findIdx? p with
  | some i => i + 1
  | none => 0
theorem fst_le (p : Fld → Bool) (L : List Fld) : fst p L ≤ L.length := by
  unfold fst
  cases h : L.findIdx? p with
  | none => simp
  | some i => have := (List.findIdx?_eq_some_iff_getElem.1 h).1; simp only; omega
theorem fst_snoc (p : Fld → Bool) (L : List Fld) (x : Fld) : fst p (L ++ [x]) = if fst p L = 0 then (if p x then L.length + 1 else 0) else fst p L := by
  unfold fst
  rw [List.findIdx?_append]
  cases h : L.findIdx? p with
  | none => cases hp : p x <;> simp [List.findIdx?_cons, hp]
  | some i => simp
def sameF (f : Fld) (x : Fld) : Bool := x.1.toList == f.1.toList && x.2.toList == f.2.toList
def sameN (f : Fld) (x : Fld) : Bool := x.1.toList == f.1.toList
set_option maxRecDepth 100000 in
set_option maxHeartbeats 4000000 in
theorem find_any {w : World} {b base : Nat} {max sz : Int} {l : List Fld} (h : IsTable w b base max l sz) (hl : l.length ≤ 1000000) (f : Fld) :
    Calls Try.prog 9 #[.pointer (some ⟨b, 0, none⟩), fv f] w fun e w' => e = .returned (.tuple #[.int .i64 (fst (sameF f) (allL l)), .int .i64 (fst (sameN f) (allL l))]) ∧ Below w.heap.size w w' := by
  have H := Lib.hid h
  have hlt := h.lt
  obtain ⟨⟨va, hc0, hO, hne⟩, _⟩ := id h
  have HO := Lib.hid hO
  obtain ⟨av, capv, rfl, hv1, hv2, _⟩ := hO.slice
  clear h hO
  obtain ⟨f1, f2⟩ := f
  simp only [fv]
  go_enter Try.func9, Try.ntmps9
  go_wp2_with fail
  have hB1 : Below w.heap.size w (w.alloc (.cells #[.string f1, .string f2] 29)) := (Below.refl _ _).alloc (Nat.le_refl _) _
  have k0 : (w.alloc (.cells #[.string f1, .string f2] 29)).cell? ⟨w.heap.size, 0, none⟩ = some (.string f1) := by simp
  have k1 : (w.alloc (.cells #[.string f1, .string f2] 29)).cell? ⟨w.heap.size, 1, none⟩ = some (.string f2) := by simp
  have hs1 : w.heap.size < (w.alloc (.cells #[.string f1, .string f2] 29)).heap.size := by simp
  generalize w.alloc (.cells #[.string f1, .string f2] 29) = w1 at *
  have HB1 := Lib.hid hB1
  have hlt1 : b < w1.heap.size := by omega
  have HS0 : w1.drew.cell? ⟨b, 0, none⟩ = some (.slice av l.length capv) ∧ w1.drew.cell? ⟨w.heap.size, 0, none⟩ = some (.string f1) ∧ w1.drew.cell? ⟨w.heap.size, 1, none⟩ = some (.string f2) := ⟨(hB1.cell (p := ⟨b, 0, none⟩) hlt).trans hc0, k0, k1⟩
  have HA1 := Lib.hid (HO.out.at_.old hB1)
  have hfl : [alwaysL, l].flatten = allL l := by simp [allL]
  have hfll : (allL l).length = 12 + l.length := by simp [allL]; rfl
  clear hB1 k0 k1 hc0
  have hcat : ∀ w2 : World, Below w1.heap.size w1.drew w2 → Own encF w2 w1.heap.size 29 (.slice (some ⟨w1.heap.size, 0, none⟩) 12 12) alwaysL →
      Calls Try.prog 20 #[.slice (some ⟨w2.heap.size, 0, none⟩) 2 2] (w2.alloc (.cells #[.slice (some ⟨w1.heap.size, 0, none⟩) 12 12, .slice av l.length capv] 22)) fun e w' => ∃ a' c', e = .returned (.slice a' (12 + l.length) c') ∧ Own encF w' w2.heap.size 29 (.slice a' (12 + l.length) c') (allL l) ∧ Below w2.heap.size w2 w' := by
    intro w2 hB2 hO2
    refine (FieldCat.concat_any _ _ [alwaysL, l] _ (FieldCat.RowsAt.new w2 #[.slice (some ⟨w1.heap.size, 0, none⟩) 12 12, .slice av l.length capv] 22 [alwaysL, l] rfl (by simp) (fun i hi => ?_)) (by simp [FieldCat.sumLen]; show 12 + l.length ≤ _; omega)).mono ?_
    · rcases i with _ | _ | i
      · exact ⟨_, rfl, hO2.at_⟩
      · exact ⟨_, rfl, (HA1.out.old (w' := w1.drew) ⟨rfl, rfl, rfl, Nat.le_refl _, fun _ _ => rfl⟩).old hB2⟩
      · simp at hi; omega
    · rintro e w3 ⟨v', rfl, hO3, hB3⟩
      rw [hfl] at hO3
      have hO3' : Own encF w3 w2.heap.size 29 v' (allL l) := hO3.mono (by simp)
      obtain ⟨a', c', rfl, _⟩ := hO3'.slice
      rw [hfll] at hO3' ⊢
      exact ⟨a', c', rfl, hO3', ((Below.refl w2.heap.size w2).alloc (Nat.le_refl _) _).trans (hB3.mono (by simp))⟩
  go_region_held3 (fun w' => w'.cell? ⟨b, 0, none⟩ = some (.slice av l.length capv) ∧ w'.cell? ⟨w.heap.size, 0, none⟩ = some (.string f1) ∧ w'.cell? ⟨w.heap.size, 1, none⟩ = some (.string f2)) (first | exact HS0 | exact hS2 | exact hS2b _ | exact hS3)
    (first
      | (go_at_call 16; refine (always_ok _).mono ?_; rintro e w2 ⟨rfl, hO2, hB2, hs2⟩; have hS2 : w2.cell? ⟨b, 0, none⟩ = some (.slice av l.length capv) ∧ w2.cell? ⟨w.heap.size, 0, none⟩ = some (.string f1) ∧ w2.cell? ⟨w.heap.size, 1, none⟩ = some (.string f2) := ⟨(hB2.cell (p := ⟨b, 0, none⟩) hlt1).trans HS0.1, (hB2.cell (p := ⟨w.heap.size, 0, none⟩) hs1).trans HS0.2.1, (hB2.cell (p := ⟨w.heap.size, 1, none⟩) hs1).trans HS0.2.2⟩; have hlt2 : b < w2.heap.size ∧ w.heap.size < w2.heap.size := (by rw [hs2]; show b < w1.heap.size + 1 ∧ w.heap.size < w1.heap.size + 1; omega); have HSZ2 := Lib.hid hs2; clear hs2; have hS2b : ∀ o, (w2.alloc o).cell? ⟨b, 0, none⟩ = some (.slice av l.length capv) ∧ (w2.alloc o).cell? ⟨w.heap.size, 0, none⟩ = some (.string f1) ∧ (w2.alloc o).cell? ⟨w.heap.size, 1, none⟩ = some (.string f2) := (fun o => ⟨(cell_alloc w2 o b 0 hlt2.1).trans hS2.1, (cell_alloc w2 o w.heap.size 0 hlt2.2).trans hS2.2.1, (cell_alloc w2 o w.heap.size 1 hlt2.2).trans hS2.2.2⟩))
      | (go_at_call 20; refine (hcat w2 hB2 hO2).mono ?_; rintro e w3 ⟨a', c', rfl, hO3, hB3⟩; have hS3 : w3.cell? ⟨b, 0, none⟩ = some (.slice av l.length capv) ∧ w3.cell? ⟨w.heap.size, 0, none⟩ = some (.string f1) ∧ w3.cell? ⟨w.heap.size, 1, none⟩ = some (.string f2) := ⟨(hB3.cell (p := ⟨b, 0, none⟩) hlt2.1).trans hS2.1, (hB3.cell (p := ⟨w.heap.size, 0, none⟩) hlt2.2).trans hS2.2.1, (hB3.cell (p := ⟨w.heap.size, 1, none⟩) hlt2.2).trans hS2.2.2⟩))
  obtain ⟨_, u0, u1⟩ := hS3
  have hF3 : w.heap.size < w3.heap.size := block_lt_of_cell u0
  have HB3 : Hid (Below w.heap.size w w3) := HB1.out.drew.trans ((hB2.mono (show w.heap.size ≤ w1.drew.heap.size from Nat.le_of_lt hs1)).trans (hB3.mono (by omega)))
  have HO3 := Lib.hid hO3
  have HFLL := Lib.hid hfll
  clear hcat hS2 hS2b HS0 hB2 hO2 hB3 hO3 hfl hfll hlt2
  obtain ⟨L, hL⟩ : ∃ L, allL l = L := ⟨_, rfl⟩
  have HLL := Lib.hid hL
  rw [hL] at HO3 HFLL
  clear hL
  generalize hN : 12 + l.length = N at *
  have hNb : N ≤ 2000000 := by omega
  have hcast : (12 : Int) + (l.length : Int) = (N : Int) := by omega
  rw [hcast]
  go_wp2_with fail
  go_loopw [4, 5, 16] (fun wh nm c wr => ∃ k : Nat, k ≤ N ∧ c = .int .i64 k ∧ wh = .int .i64 (fst (sameF (f1, f2)) (L.take k)) ∧ nm = .int .i64 (fst (sameN (f1, f2)) (L.take k)) ∧ Below w3.heap.size w3 wr) (fun _ _ c _ => N - (intOf c).toNat)
  case atStart => exact ⟨0, Nat.zero_le _, rfl, rfl, rfl, Below.refl _ _⟩
  case round =>
    obtain ⟨k, hk, rfl, rfl, rfl, hB⟩ := hrel
    have HB := Lib.hid hB
    by_cases hkN : k < N
    · obtain ⟨g, cap, e, hc1, hc2, _, hglt, hel⟩ := HO3.out.slice1 N HFLL.out (by omega)
      simp only [Value.slice.injEq, true_and] at e
      obtain ⟨rfl, rfl⟩ := e
      have hkL : k < L.length := by rw [HFLL.out]; exact hkN
      have m0 := (hB.cell (p := ⟨g, k * 2, none⟩) hglt).trans (hel k hkL 0 (by decide))
      have m1 := (hB.cell (p := ⟨g, k * 2 + 1, none⟩) hglt).trans (hel k hkL 1 (by decide))
      have v0 := (hB.cell (p := ⟨w.heap.size, 0, none⟩) hF3).trans u0
      have v1 := (hB.cell (p := ⟨w.heap.size, 1, none⟩) hF3).trans u1
      have HT : Hid (L.take (k + 1) = L.take k ++ [L[k]]) := List.take_succ_eq_append_getElem hkL
      have HTL : Hid ((L.take k).length = k) := by show _ = _; rw [List.length_take]; omega
      have hfl1 := fst_le (sameF (f1, f2)) (L.take k)
      have hfl2 := fst_le (sameN (f1, f2)) (L.take k)
      rw [HTL.out] at hfl1 hfl2
      replace m0 : wr.cell? ⟨g, k * 2, none⟩ = some (.string (L[k]).1) := m0
      replace m1 : wr.cell? ⟨g, k * 2 + 1, none⟩ = some (.string (L[k]).2) := m1
      have HS1 := Lib.hid (fst_snoc (sameF (f1, f2)) (L.take k) L[k])
      have HS2 := Lib.hid (fst_snoc (sameN (f1, f2)) (L.take k) L[k])
      generalize L[k] = x at *
      obtain ⟨x1, x2⟩ := x
      simp only at m0 m1
      clear hel hB
      generalize fst (sameF (f1, f2)) (L.take k) = W at *
      generalize fst (sameN (f1, f2)) (L.take k) = M at *
      have d2 : (0 : Int) ≤ (k : Int) := by omega
      have d3 : (k : Int) < (N : Int) := by omega
      have v2 : ∀ o, (wr.alloc o).cell? ⟨w.heap.size, 0, none⟩ = some (.string f1) := fun o => (cell_alloc wr o w.heap.size 0 (by have := HB.out.size; omega)).trans v0
      have v3 : ∀ o, (wr.alloc o).cell? ⟨w.heap.size, 1, none⟩ = some (.string f2) := fun o => (cell_alloc wr o w.heap.size 1 (by have := HB.out.size; omega)).trans v1
      by_cases hW : W = 0 <;> by_cases hM : M = 0 <;> by_cases e1 : x1.toList = f1.toList <;> by_cases e2 : x2.toList = f2.toList
      all_goals
        first
          | have dW : ((W : Int) == 0) = true := by simp [hW]
          | have dW : ((W : Int) == 0) = false := by simp; omega
        first
          | have dM : ((M : Int) == 0) = true := by simp [hM]
          | have dM : ((M : Int) == 0) = false := by simp; omega
        first
          | have de : (x1.toList == f1.toList) = true := by simp [e1]
          | have de : (x1.toList == f1.toList) = false := by simpa using e1
        have HW := Lib.hid hW
        have HM := Lib.hid hM
        have HE1 := Lib.hid e1
        have HE2 := Lib.hid e2
        clear hW hM
        go_wp2_with fail
        refine ⟨⟨k + 1, by omega, rfl, ?_, ?_, HB.out.alloc (by have := HB.out.size; omega) _⟩, by simp [intOf]; omega⟩
        · rw [HT.out, HS1.out, HTL.out]
          have hW := HW.out
          have e1 := HE1.out
          have e2 := HE2.out
          simp [sameF, hW, e1, e2]
        · rw [HT.out, HS2.out, HTL.out]
          have hM := HM.out
          have e1 := HE1.out
          simp [sameN, hM, e1]
    · obtain rfl : k = N := by omega
      have hT : L.take k = L := List.take_of_length_le (by rw [HFLL.out]; exact Nat.le_refl _)
      rw [hT]
      clear hB
      go_wp2
      go_ret2
      exact ⟨by rw [HLL.out]; rfl, HB3.out.trans (HB.out.mono (by omega))⟩
end Go.Proofs.Ytbbhinhledkceaa.TableC
