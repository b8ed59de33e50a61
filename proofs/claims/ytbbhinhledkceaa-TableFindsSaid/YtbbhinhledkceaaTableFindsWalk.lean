/-
  The walk of the law TableFinds: for all sizes and fields it returns true and writes nothing that was there.
  Conditions: none.
-/
import Derived.Test.YtbbhinhledkceaaFieldsArg
import Derived.Test.YtbbhinhledkceaaTableFind
import Derived.Lib.Hide
namespace Go.Proofs.Ytbbhinhledkceaa.WalkTableFinds
open Go.RowKit RowsK FieldRows TableC ModL
set_option linter.unusedVariables false
set_option linter.unusedSimpArgs false

theorem addL_len (max : Int) (l : List Fld) (sz : Int) (f : Fld) : (addL max l sz f).1.length ≤ l.length + 1 := by
  unfold addL
  split
  · simp only [List.length_take]; omega
  · simp only [List.length_cons, List.length_take]; omega
theorem fst_spec (p : Fld → Bool) (L : List Fld) (k : Nat) (hk : k < L.length) (h : p L[k] = true) : ∃ i, fst p L = i + 1 ∧ i ≤ k ∧ i < L.length ∧ p (L.getD i nof) = true := by
  unfold fst
  cases hf : L.findIdx? p with
  | none => have := List.findIdx?_eq_none_iff.1 hf L[k] (List.getElem_mem hk); rw [h] at this; cases this
  | some i =>
    obtain ⟨hi, hp, hmin⟩ := List.findIdx?_eq_some_iff_getElem.1 hf
    refine ⟨i, rfl, ?_, hi, ?_⟩
    · rcases Nat.lt_or_ge k i with hlt | hge
      · exact absurd h (by simpa using hmin k hlt)
      · exact hge
    · simpa [List.getD, hi] using hp
theorem fst_mono (p q : Fld → Bool) (L : List Fld) (i : Nat) (h : fst p L = i + 1) (hpq : ∀ x, p x = true → q x = true) : fst q L ≤ i + 1 := by
  unfold fst at h ⊢
  cases hf : L.findIdx? p with
  | none => rw [hf] at h; simp at h
  | some j =>
    rw [hf] at h
    obtain rfl : j = i := by simpa using h
    obtain ⟨hi, hp, _⟩ := List.findIdx?_eq_some_iff_getElem.1 hf
    obtain ⟨q', e, h1, _⟩ := fst_spec q L j hi (hpq _ hp)
    unfold fst at e
    rw [e]; omega
theorem fst_app (p : Fld → Bool) (a l : List Fld) (i : Nat) (h : fst p a = i + 1) : fst p (a ++ l) = i + 1 := by
  unfold fst at h ⊢
  rw [List.findIdx?_append]
  cases hf : a.findIdx? p with
  | none => rw [hf] at h; simp at h
  | some j => rw [hf] at h; simpa using h
theorem own_number (k : Nat) (hk : k < 12) : fst (sameF (alwaysL.getD k nof)) alwaysL = k + 1 := by
  have e : ∀ f, sameF f = fun x => (x.1.data.toList == f.1.data.toList && x.2.data.toList == f.2.data.toList) := fun f => by funext x; simp only [sameF, ByteArray.toList_eq]
  rw [e]
  clear e
  revert k
  decide
set_option maxRecDepth 100000 in
set_option maxHeartbeats 8000000 in
theorem walk (m : Int) (v1 : Value) (fs : List Fld) (w : World) (w0 : Args.I64 m) (w1 : Args.FieldsAt w v1 fs) :
    Calls Try.prog 3 #[.int .i64 m, v1] w fun e w' => e = .returned (.bool true) ∧ Below w.heap.size w w' := by
  obtain ⟨⟨a1, cap1, rfl, hcap1, hcap2, hnil1, hel⟩, _⟩ := w1
  have HEL := Lib.hid hel
  clear hel
  obtain ⟨r1, r2⟩ := w0
  by_cases hm : 0 ≤ m ∧ m ≤ 4096
  · have HN := Lib.hid (new_ok m w hm)
    clear hm
    go_enter Try.func3, Try.ntmps3
    go_wp2_with fail
    refine HN.out.mono ?_
    rintro e w1 ⟨rfl, h1, hB1⟩
    have HB1 := Lib.hid hB1
    have H1 := Lib.hid h1
    clear h1 hB1
    have HG1 := Lib.hid (TableC.get_at H1.out (by simp) 0 (by simp))
    have e1 : (allL []).getD 0 nof = (⟨#[58, 109, 101, 116, 104, 111, 100]⟩, ⟨#[71, 69, 84]⟩) := rfl
    rw [e1] at HG1
    simp only [fv] at HG1
    clear e1
    go_wp2_with fail
    refine HG1.out.mono ?_
    rintro e w2 ⟨rfl, hB2⟩
    have H2 := Lib.hid (H1.out.old hB2)
    have HB2 := Lib.hid (HB1.out.trans (hB2.mono (by have := HB1.out.size; omega)))
    clear hB2
    have HL2 := fun o => len_any (H2.out.old ((Below.refl w2.heap.size w2).alloc (Nat.le_refl _) o)) (by simp)
    have HL2 := Lib.hid HL2
    go_wp2_with fail
    refine (HL2.out _).mono ?_
    rintro e w3 ⟨rfl, hB3⟩
    have HB3 : Hid (Below w.heap.size w w3) := (HB2.out.alloc (by have := HB2.out.size; omega) _).trans (hB3.mono (by have := HB2.out.size; simp; omega))
    have H3 := Lib.hid ((H2.out.old ((Below.refl w2.heap.size w2).alloc (Nat.le_refl _) _)).old hB3)
    clear hB3 HL2 HG1 HB2 H2 HB1 H1 HN
    have hw3 := HB3.out.size
    have hw2 : w.heap.size < w3.heap.size := H3.out.lt
    go_wp2_with fail
    go_loopw [9] (fun i wr => ∃ (k : Nat) (l : List Fld) (sz : Int), i = .int .i64 k ∧ k ≤ 40 ∧ l.length ≤ k ∧ IsTable wr w.heap.size w.heap.size m l sz ∧ Below w.heap.size w wr) (fun i _ => 40 - (intOf i).toNat)
    case atStart => exact ⟨0, [], 0, rfl, by omega, by simp, H3.out, HB3.out⟩
    case round =>
      obtain ⟨k, l, sz, rfl, hk, hl, hI, hB⟩ := hrel
      have HI := Lib.hid hI
      have HB := Lib.hid hB
      by_cases hin : k < fs.length ∧ k < 40
      · obtain ⟨i1, i2⟩ := hin
        obtain ⟨b1, off, rfl, hb1, hc⟩ := HEL.out k i1
        have c0 := (hB.cell (p := ⟨b1, off + (k * 2 + 0), none⟩) hb1).trans (hc 0 (by decide))
        have c1 := (hB.cell (p := ⟨b1, off + (k * 2 + 1), none⟩) hb1).trans (hc 1 (by decide))
        rw [Nat.add_zero] at c0
        rw [← Nat.add_assoc] at c1
        replace c0 : wr.cell? ⟨b1, off + k * 2, none⟩ = some (.string fs[k].1) := c0
        replace c1 : wr.cell? ⟨b1, off + k * 2 + 1, none⟩ = some (.string fs[k].2) := c1
        have HA := Lib.hid (add_any hI fs[k] (by omega))
        generalize fs[k] = x at *
        obtain ⟨x1, x2⟩ := x
        simp only [fv] at HA c0 c1
        have d2 : (0 : Int) ≤ (k : Int) := by omega
        have d3 : (k : Int) < (fs.length : Int) := by omega
        clear hI hB hc
        go_wp2_with fail
        refine HA.out.mono ?_
        rintro e w4 ⟨rfl, h4, hM4⟩
        have HLN := Lib.hid (addL_len m l sz (x1, x2))
        have HI4 := Lib.hid h4
        have HM4 := Lib.hid hM4
        clear h4 hM4 HA
        go_wp2_with fail
        go_roundw
        case measure => simp [intOf]; omega
        exact ⟨k + 1, _, _, rfl, by omega, Nat.le_trans HLN.out (by omega), HI4.out, HB.out.trans (HM4.out.toBelow HB.out.size (fun q hq h => Nat.not_le_of_lt hq h))⟩
      · have hex : ¬ k < fs.length ∨ (k < fs.length ∧ ¬ k < 40) := by omega
        clear hin hI hB
        have HX := Lib.hid hex
        clear hex
        have HK : Hid (l.length ≤ 40) := Nat.le_trans hl hk
        rcases HX.out with j1 | ⟨j1, j2⟩
        all_goals
          clear HX HEL hcap1 hcap2 hnil1
          go_wp2_with fail
          go_loopw [10] (fun i wr2 => ∃ p : Nat, i = .int .i64 ((p : Int) + 1) ∧ p ≤ 12 + l.length ∧ IsTable wr2 w.heap.size w.heap.size m l sz ∧ Below w.heap.size w wr2) (fun i _ => 13 + l.length - (intOf i).toNat)
          case atStart => exact ⟨0, rfl, by omega, HI.out, HB.out⟩
          case round =>
            clear HB3 H3 hw3 hw2 HI HB
            obtain ⟨p, rfl, hp, hI2, hB2⟩ := hrel
            have hl40 : l.length ≤ 1000000 := Nat.le_trans HK.out (by decide)
            have HL := Lib.hid (len_any hI2 hl40)
            have HI := Lib.hid hI2
            have HB := Lib.hid hB2
            clear hI2 hB2
            go_wp2_with fail
            refine HL.out.mono ?_
            rintro e w5 ⟨rfl, hB5⟩
            have HI5 := Lib.hid (HI.out.old hB5)
            have HB5 : Hid (Below w.heap.size w w5) := HB.out.trans (hB5.mono HB.out.size)
            clear hB5 HL HI HB
            by_cases hp2 : p < 12 + l.length
            · have hl1 : (p : Int) + 1 ≤ 12 + (l.length : Int) := by omega
              have hLL : (allL l).length = 12 + l.length := by simp [allL]; rfl
              have hpL : p < (allL l).length := by rw [hLL]; exact hp2
              have hxp : (allL l).getD p nof = (allL l)[p] := by simp [List.getD, hpL]
              obtain ⟨i, hi1, hi2, hi3, hi4⟩ := fst_spec (sameF ((allL l).getD p nof)) (allL l) p hpL (by rw [hxp]; simp [sameF])
              have hmono := fst_mono _ (sameN ((allL l).getD p nof)) (allL l) i hi1 (fun x hx => by simp only [sameF, sameN, Bool.and_eq_true] at hx ⊢; exact hx.1)
              have hown : p < 12 → i = p := fun h12 => by
                have e1 : (allL l).getD p nof = alwaysL.getD p nof := by simp only [allL, List.getD, List.getElem?_append_left (show p < alwaysL.length from h12)]
                have e2 := fst_app _ alwaysL l _ (own_number p h12)
                rw [e1] at hi1
                have e3 : fst (sameF (alwaysL.getD p nof)) (allL l) = p + 1 := e2
                omega
              have HGP := fun (W : World) (h : IsTable W w.heap.size w.heap.size m l sz) => TableC.get_at h hl40 p hp2
              have HFP := fun (W : World) (h : IsTable W w.heap.size w.heap.size m l sz) => find_any h hl40 ((allL l).getD p nof)
              have HGI := fun (W : World) (h : IsTable W w.heap.size w.heap.size m l sz) => TableC.get_at h hl40 i (by rw [← hLL]; exact hi3)
              rw [hi1] at HFP
              simp only [sameF, Bool.and_eq_true, beq_iff_eq] at hi4
              have hcast : ((i + 1 : Nat) : Int) = (i : Int) + 1 := rfl
              rw [hcast] at HFP
              generalize fst (sameN ((allL l).getD p nof)) (allL l) = M at *
              generalize (allL l).getD p nof = x at *
              generalize (allL l).getD i nof = y at *
              obtain ⟨x1, x2⟩ := x
              obtain ⟨y1, y2⟩ := y
              simp only [fv] at HGP HFP HGI hi4
              have HGP := Lib.hid HGP
              have HFP := Lib.hid HFP
              have HGI := Lib.hid HGI
              obtain ⟨y1e, y2e⟩ := hi4
              have HY1 := Lib.hid y1e
              have HY2 := Lib.hid y2e
              have HOWN := Lib.hid hown
              clear hi1 hLL hpL hxp hown hcast y1e y2e hi3
              go_wp2_with fail
              refine (HGP.out _ HI5.out).mono ?_
              rintro e w6 ⟨rfl, hB6⟩
              have hBa : Below w5.heap.size w5 (w6.alloc (.cells #[.string x1, .string x2] 29)) := hB6.alloc hB6.size _
              have HI6 := Lib.hid (HI5.out.old hBa)
              have HB6 : Hid (Below w.heap.size w (w6.alloc (.cells #[.string x1, .string x2] 29))) := HB5.out.trans (hBa.mono HB5.out.size)
              have k0 : (w6.alloc (.cells #[.string x1, .string x2] 29)).cell? ⟨w6.heap.size, 0, none⟩ = some (.string x1) := by simp
              have k1 : (w6.alloc (.cells #[.string x1, .string x2] 29)).cell? ⟨w6.heap.size, 1, none⟩ = some (.string x2) := by simp
              clear hBa hB6 HB5 HI5
              go_wp2_with fail
              refine (HFP.out _ HI6.out).mono ?_
              rintro e w7 ⟨rfl, hB7⟩
              have HI7 := Lib.hid (HI6.out.old hB7)
              have HB7 : Hid (Below w.heap.size w w7) := HB6.out.trans (hB7.mono HB6.out.size)
              have l0 := (hB7.cell (p := ⟨w6.heap.size, 0, none⟩) (by simp)).trans k0
              have l1 := (hB7.cell (p := ⟨w6.heap.size, 1, none⟩) (by simp)).trans k1
              have hlt6 : w6.heap.size < w7.heap.size := block_lt_of_cell l0
              clear hB7 k0 k1 HI6 HB6
              go_wp2_with fail
              refine (HGI.out _ HI7.out).mono ?_
              rintro e w8 ⟨rfl, hB8⟩
              have n0 := (hB8.cell (p := ⟨w6.heap.size, 0, none⟩) hlt6).trans l0
              have n1 := (hB8.cell (p := ⟨w6.heap.size, 1, none⟩) hlt6).trans l1
              have hlt8 : w6.heap.size < w8.heap.size := block_lt_of_cell n0
              have n2 : ∀ o, (w8.alloc o).cell? ⟨w6.heap.size, 0, none⟩ = some (.string x1) := fun o => (cell_alloc w8 o w6.heap.size 0 hlt8).trans n0
              have n3 : ∀ o, (w8.alloc o).cell? ⟨w6.heap.size, 1, none⟩ = some (.string x2) := fun o => (cell_alloc w8 o w6.heap.size 1 hlt8).trans n1
              have hBa : Below w7.heap.size w7 (w8.alloc (.cells #[.string y1, .string y2] 29)) := hB8.alloc hB8.size _
              have HI8 := Lib.hid (HI7.out.old hBa)
              have HB8 : Hid (Below w.heap.size w (w8.alloc (.cells #[.string y1, .string y2] 29))) := HB7.out.trans (hBa.mono HB7.out.size)
              clear hB8 hBa HI7 HB7 l0 l1 n0 n1
              have t1 : ¬ ((p : Int) + 1 < (i : Int) + 1) := by omega
              have t2 : ¬ ((i : Int) + 1 < (M : Int)) := by omega
              have y1e := HY1.out
              have y2e := HY2.out
              have he1 : (y1.toList == x1.toList) = true := by simp [y1e]
              have he2 : (y2.toList == x2.toList) = true := by simp [y2e]
              by_cases h12 : p < 12
              · obtain rfl := HOWN.out h12
                have h12' : (i : Int) + 1 ≤ 12 := by omega
                go_wp2_with fail
                exact ⟨⟨i + 1, rfl, by omega, HI8.out, HB8.out⟩, by simp [intOf]; omega⟩
              · have h12' : ¬ ((p : Int) + 1 ≤ 12) := by omega
                go_wp2_with fail
                exact ⟨⟨p + 1, rfl, by omega, HI8.out, HB8.out⟩, by simp [intOf]; omega⟩
            · have hl1 : ¬ ((p : Int) + 1 ≤ 12 + (l.length : Int)) := by omega
              have HL6 := Lib.hid (len_any HI5.out hl40)
              go_wp2_with fail
              refine HL6.out.mono ?_
              rintro e w6 ⟨rfl, hB6⟩
              have HG6 := Lib.hid (get_none (HI5.out.old hB6) hl40 (12 + (l.length : Int) + 1) (by omega))
              have HB6 : Hid (Below w.heap.size w w6) := HB5.out.trans (hB6.mono HB5.out.size)
              have hwr : IntKind.i64.wrap (12 + (l.length : Int) + 1) = 12 + (l.length : Int) + 1 := IntWalk.i64_in _ (by omega)
              simp only [fv, nof] at HG6
              clear hB6 HL6
              go_wp2_with fail
              refine HG6.out.mono ?_
              rintro e w7 ⟨rfl, hB7⟩
              go_wp2
              go_ret
              exact ⟨rfl, HB6.out.trans ((hB7.mono HB6.out.size).alloc (Nat.le_trans HB6.out.size hB7.size) _)⟩
  · have HN := Lib.hid (new_bad m w (by omega))
    have hm' : m < 0 ∨ (0 ≤ m ∧ 4096 < m) := by omega
    clear hm
    rcases hm' with q1 | ⟨q1, q2⟩
    all_goals
      go_enter Try.func3, Try.ntmps3
      go_wp2_with fail
      refine HN.out.mono ?_
      rintro e w1 ⟨rfl, rfl⟩
      go_wp2
      go_ret
      exact ⟨rfl, Below.refl _ _⟩
end Go.Proofs.Ytbbhinhledkceaa.WalkTableFinds
