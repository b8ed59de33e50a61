/-
  head.Weight over this seat's translation, exactly.
  Conditions: none.
-/
import Derived.Test.YtbbhinhledkceaaTableA
import Derived.IntWalk
import Derived.Lib.Hide
namespace Go.Proofs.Ytbbhinhledkceaa.HeadF
open Go.RowKit RowsK FieldRows ModL TableC
set_option linter.unusedVariables false
set_option linter.unusedSimpArgs false

/-- What fields weigh together, behind n. -/
def wgt : List Fld → Int → Int
  | [], n => n
  | f :: l, n => wgt l (wrap64 (n + sizeW f))
theorem wgt_step (l : List Fld) (n : Int) (i : Nat) (hi : i < l.length) : wgt (l.drop i) n = wgt (l.drop (i + 1)) (wrap64 (n + sizeW l[i])) := by
  rw [List.drop_eq_getElem_cons hi]; rfl
theorem wgt_end (l : List Fld) (n : Int) : wgt (l.drop l.length) n = n := by rw [List.drop_length]; rfl
set_option maxRecDepth 100000 in
set_option maxHeartbeats 8000000 in
theorem weight_any (v : Value) (l : List Fld) (w : World) (hl : At encF w v l) :
    Calls Try.prog 13 #[v] w fun e w' => e = .returned (.int .i64 (wgt l 0)) ∧ Below w.heap.size w w' := by
  obtain ⟨a, cap, rfl, hcap, hcap2, _, hel⟩ := hl
  have HEL := Lib.hid hel
  clear hel
  have hn : (l.length : Int) ≤ 9223372036854775807 := by omega
  go_enter Try.func13, Try.ntmps13
  go_wp2_with fail
  go_loopw [3, 8] (fun nv iv wi => ∃ (i : Nat) (n : Int), iv = .int .i64 i ∧ nv = .int .i64 n ∧ i ≤ l.length ∧ Hid (wgt (l.drop i) n = wgt l 0) ∧ Below w.heap.size w wi) (fun _ iv _ => l.length - (intOf iv).toNat)
  case atStart => exact ⟨0, 0, rfl, rfl, by omega, Lib.hid rfl, Below.refl _ _⟩
  case round =>
    obtain ⟨i, n, rfl, rfl, hi, HZ, hB⟩ := hrel
    by_cases hin : i < l.length
    · obtain ⟨b, off, rfl, hb, hc⟩ := HEL.out i hin
      have c0 := (hB.cell (p := ⟨b, off + (i * 2 + 0), none⟩) hb).trans (hc 0 (by decide))
      have c1 := (hB.cell (p := ⟨b, off + (i * 2 + 1), none⟩) hb).trans (hc 1 (by decide))
      change _ = some (Value.string l[i].1) at c0
      change _ = some (Value.string l[i].2) at c1
      rw [← Nat.add_assoc] at c0 c1
      rw [Nat.add_zero] at c0
      have hi0 : (0 : Int) ≤ (i : Int) := by omega
      have hi1 : (i : Int) < (l.length : Int) := by omega
      have HST : Hid (wgt (l.drop (i + 1)) (wrap64 (n + sizeW l[i])) = wgt l 0) := (wgt_step l n i hin).symm.trans HZ.out
      have HSZ := Lib.hid (fun W => size_any l[i] W)
      clear hc HZ
      generalize l[i] = f at *
      obtain ⟨fa, fb⟩ := f
      simp only at c0 c1
      obtain ⟨wo, rfl⟩ : ∃ wo : World, wo = wr := ⟨_, rfl⟩
      have hsz := hB.size
      have HB := Lib.hid hB
      clear hB
      go_wp2_with (first
        | (go_at_call 17; refine (HSZ.out _).mono ?_; rintro e w2 ⟨rfl, hB2⟩; have HB2 := Lib.hid hB2; clear hB2)
        | fail)
      refine ⟨⟨i + 1, _, by simp, rfl, by omega, HST, (HB.out.alloc hsz _).trans (HB2.out.mono (by simp; omega))⟩, ?_⟩
      simp only [intOf]
      omega
    · obtain rfl : i = l.length := by omega
      have hi1 : ¬ ((l.length : Int) < (l.length : Int)) := by omega
      have HZ2 : Hid (wgt l 0 = n) := by show _ = _; rw [← HZ.out, wgt_end]
      have HB := Lib.hid hB
      clear hB HZ
      go_wp2_with fail
      go_ret
      rw [HZ2.out]
      exact ⟨rfl, HB.out⟩
/-- Whether fields are too many, or too heavy. -/
def fullB (l : List Fld) : Bool := if 40 < l.length then true else decide (2000 < wgt l 0)
set_option maxRecDepth 100000 in
set_option maxHeartbeats 8000000 in
theorem full_any (v : Value) (l : List Fld) (w : World) (hl : At encF w v l) :
    Calls Try.prog 21 #[v] w fun e w' => e = .returned (.bool (fullB l)) ∧ Below w.heap.size w w' := by
  have HW := Lib.hid (weight_any v l w hl)
  obtain ⟨a, cap, rfl, hcap, hcap2, _, hel⟩ := hl
  clear hel
  obtain ⟨B, hB⟩ : ∃ B, fullB l = B := ⟨_, rfl⟩
  rw [hB]
  unfold fullB at hB
  by_cases h : 40 < l.length
  · rw [if_pos h] at hB
    have HB := Lib.hid hB
    have h' : (40 : Int) < (l.length : Int) := by omega
    clear hB
    go_enter Try.func21, Try.ntmps21
    go_wp2_with fail
    go_ret
    rw [← HB.out]
    exact ⟨rfl, Below.refl _ _⟩
  · rw [if_neg h] at hB
    have HB := Lib.hid hB
    have h' : ¬ (40 : Int) < (l.length : Int) := by omega
    clear hB
    generalize wgt l 0 = W0 at *
    go_enter Try.func21, Try.ntmps21
    go_wp2_with (first
      | (go_at_call 13; refine HW.out.mono ?_; rintro e w2 ⟨rfl, hB2⟩; have HB2 := Lib.hid hB2; clear hB2)
      | fail)
    go_ret
    rw [← HB.out]
    exact ⟨rfl, HB2.out⟩
end Go.Proofs.Ytbbhinhledkceaa.HeadF
