/-
  What is wrong with a message: the reference's Name, Fields, Ask, Tell.
  Conditions: the lengths.
-/
import Derived.Test.YtincckopnebceaaGreatDoorLineCheck
import Derived.Test.YtincckopnebceaaGreatDoorTokRef
import Derived.Test.YtincckopnebceaaGreatDoorFieldsArg
import Derived.Test.YtincckopnebceaaGreatDoorBytesArg
namespace Go.Proofs.YtincckopnebceaaGreatDoor.LineM
open Go.RowKit Go.Shelf RowsK LineC FieldRows BA
set_option linter.unusedVariables false
set_option linter.unusedSimpArgs false

def noGreat (c : UInt8) : Bool := !greatB c
theorem small_great (c : UInt8) (h : greatB c = true) : smallB c = false := by
  rw [greatB_iff] at h
  rcases hb : smallB c with _ | _
  · rfl
  · rw [smallB_iff] at hb; omega
theorem name_great {l : List UInt8} (h : l.all noGreat = false) : nameL l = false := by
  rw [List.all_eq_false] at h
  obtain ⟨x, hx, hp⟩ := h
  have hg : greatB x = true := by unfold noGreat at hp; simpa using hp
  unfold nameL
  rw [show l.all smallB = false from List.all_eq_false.2 ⟨x, hx, by rw [small_great x hg]; decide⟩, Bool.and_false]
theorem name_none {l : List UInt8} (h : l.all noGreat = true) : nameL l = tokL l := by
  unfold nameL
  rcases ht : tokL l with _ | _
  · rfl
  · rw [Bool.true_and, List.all_eq_true]
    intro x hx
    unfold tokL at ht
    simp only [Bool.and_eq_true] at ht
    have h1 := List.all_eq_true.1 ht.2 x hx
    have h2 := List.all_eq_true.1 h x hx
    rw [tok_parts] at h1
    unfold noGreat at h2
    simp only [Bool.not_eq_true'] at h2
    rw [h2, Bool.or_false] at h1
    exact h1
set_option maxHeartbeats 2000000 in
theorem rname_any (s : ByteArray) (hs : s.size ≤ maxLen) (w : World) : Calls Tryz.prog 47 #[.string s] w fun e w' => e = .returned (.bool (nameL s.data.toList)) ∧ w = w' := by
  have HT := Lib.hid (rtoken_any s hs w)
  unfold maxLen at hs
  obtain ⟨R, hR⟩ : ∃ R, nameL s.data.toList = R := ⟨_, rfl⟩
  rw [hR]
  have HR := Lib.hid hR
  clear hR
  go_enter Tryz.func47, Tryz.ntmps47
  go_wp2
  go_loop [3] (fun i => ∃ k : Nat, k ≤ s.size ∧ i = .int .i64 k ∧ Hid ((s.data.toList.take k).all noGreat = true)) (fun i => s.size - (intOf i).toNat)
  case atStart => exact ⟨0, by omega, rfl, Lib.hid rfl⟩
  case round =>
    obtain ⟨k, hk, rfl, HA⟩ := hrel
    by_cases hlt : k < s.size
    · have hsn := all_snoc noGreat s k hlt
      rw [HA.out, Bool.true_and] at hsn
      have hx : s.data.toList[k]? = some s[k] := by rw [List.getElem?_eq_getElem (by rw [← size_list]; exact hlt)]; rfl
      have hix := sidx s k _ rfl _ hx
      have HSN := Lib.hid hsn
      have hng : noGreat s[k] = !greatB s[k] := rfl
      rw [hng] at HSN
      have h0 : 0 ≤ (k : Int) := by omega
      have h1 : (k : Int) < (s.size : Int) := by omega
      clear hx hsn hng
      generalize s[k] = c at *
      have HG := Lib.hid (great_any c)
      generalize greatB c = g at *
      rcases g with _ | _
      · go_wp2_with (go_at_call 33; (with_reducible refine (HG.out _).mono ?_); rintro e w1 ⟨rfl, rfl⟩)
        go_round
        case rel => exact ⟨k + 1, by omega, by go_num, HSN⟩
        case measure => simp [intOf]; omega
      · have hrr : R = false := by rw [← HR.out]; exact name_great (all_of_take HSN.out)
        subst hrr
        go_wp2_with (go_at_call 33; (with_reducible refine (HG.out _).mono ?_); rintro e w1 ⟨rfl, rfl⟩)
        go_ret
        exact ⟨rfl, rfl⟩
    · have hall := all_full (p := noGreat) hk hlt
      rw [HA.out] at hall
      have hrr : tokL s.data.toList = R := by rw [← HR.out, name_none hall.symm]
      rw [hrr] at HT
      clear hrr hall HR HA
      go_wp2_with (go_at_call 13; (with_reducible refine HT.out.mono ?_); rintro e w1 ⟨rfl, rfl⟩)
      go_ret
      exact ⟨rfl, rfl⟩
set_option maxRecDepth 100000 in
set_option maxHeartbeats 8000000 in
theorem rfields_any (v : Value) (l : List Fld) (w : World) (hl : At encF w v l) (hsz : ∀ f ∈ l, f.1.size ≤ maxLen ∧ f.2.size ≤ maxLen) :
    Calls Tryz.prog 21 #[v] w fun e w' => e = .returned (.int .i64 (fieldsE l)) ∧ w = w' := by
  have HSZ := Lib.hid hsz
  obtain ⟨a, cap, rfl, hcap, hcap2, _, hel⟩ := hl
  have HEL := Lib.hid hel
  obtain ⟨RR, hRR⟩ : ∃ R, fieldsE l = R := ⟨_, rfl⟩
  rw [hRR]
  unfold fieldsE at hRR
  have HR := Lib.hid hRR
  clear hRR hel hsz
  have hn : (l.length : Int) ≤ 9223372036854775807 := by omega
  go_enter Tryz.func21, Tryz.ntmps21
  go_wp2
  go_loop [3] (fun iv => ∃ (i : Nat), iv = .int .i64 i ∧ i ≤ l.length ∧ Hid (firstE fieldE1 (l.take i) = 0)) (fun iv => l.length - (intOf iv).toNat)
  case atStart => exact ⟨0, rfl, by omega, Lib.hid rfl⟩
  case round =>
    obtain ⟨i, rfl, hi, HZ⟩ := hrel
    by_cases hin : i < l.length
    · obtain ⟨b, off, rfl, hb, hc⟩ := HEL.out i hin
      have c0 : w.cell? ⟨b, off + (i * 2 + 0), none⟩ = some (.string l[i].1) := hc 0 (by decide)
      have c1 : w.cell? ⟨b, off + (i * 2 + 1), none⟩ = some (.string l[i].2) := hc 1 (by decide)
      rw [← Nat.add_assoc] at c0 c1
      rw [Nat.add_zero] at c0
      have hi0 : (0 : Int) ≤ (i : Int) := by omega
      have hi1 : (i : Int) < (l.length : Int) := by omega
      have HST := Lib.hid (firstE_step hin HZ.out)
      have HSTOP := Lib.hid (fun h => firstE_stop hin HZ.out h)
      have hm := HSZ.out _ (List.getElem_mem hin)
      clear hc
      generalize l[i] = f at *
      obtain ⟨fa, fb⟩ := f
      simp only at c0 c1 hm
      have HNM := Lib.hid (rname_any fa hm.1)
      have HPL := Lib.hid (rplain_any fb hm.2)
      have hfe : fieldE1 (fa, fb) = if !nameL fa.data.toList || !plainL fb.data.toList then 2 else if (fa.toList == [104, 111, 115, 116] || fa.toList == [108, 101, 110, 103, 116, 104] || fa.toList == [99, 111, 100, 105, 110, 103]) then 3 else 0 := rfl
      rw [hfe] at HST HSTOP
      generalize nameL fa.data.toList = b1 at *
      generalize plainL fb.data.toList = b2 at *
      clear hfe hm
      rcases b1 with _ | _
      · have hrr : RR = 2 := by rw [← HR.out, HSTOP.out (by simp)]; simp
        subst hrr
        go_wp2_with (first | (go_at_call 47; (with_reducible refine (HNM.out _).mono ?_); rintro e w1 ⟨rfl, rfl⟩) | (go_at_call 15; (with_reducible refine (HPL.out _).mono ?_); rintro e w1 ⟨rfl, rfl⟩))
        all_goals go_ret
        all_goals exact ⟨rfl, rfl⟩
      · rcases b2 with _ | _
        · have hrr : RR = 2 := by rw [← HR.out, HSTOP.out (by simp)]; simp
          subst hrr
          go_wp2_with (first | (go_at_call 47; (with_reducible refine (HNM.out _).mono ?_); rintro e w1 ⟨rfl, rfl⟩) | (go_at_call 15; (with_reducible refine (HPL.out _).mono ?_); rintro e w1 ⟨rfl, rfl⟩))
          all_goals go_ret
          all_goals exact ⟨rfl, rfl⟩
        · rcases h1 : (fa.toList == [104, 111, 115, 116]) with _ | _
          · rcases h2 : (fa.toList == [108, 101, 110, 103, 116, 104]) with _ | _
            · rcases h3 : (fa.toList == [99, 111, 100, 105, 110, 103]) with _ | _
              · rw [h1, h2, h3] at HST
                go_wp2_with (first | (go_at_call 47; (with_reducible refine (HNM.out _).mono ?_); rintro e w1 ⟨rfl, rfl⟩) | (go_at_call 15; (with_reducible refine (HPL.out _).mono ?_); rintro e w1 ⟨rfl, rfl⟩))
                go_round
                case rel => exact ⟨i + 1, by go_num, by omega, HST⟩
                case measure => show l.length - ((i : Int) + 1).toNat < l.length - (i : Int).toNat; omega
              · have hrr : RR = 3 := by rw [← HR.out, HSTOP.out (by rw [h1, h2, h3]; simp), h1, h2, h3]; rfl
                subst hrr
                go_wp2_with (first | (go_at_call 47; (with_reducible refine (HNM.out _).mono ?_); rintro e w1 ⟨rfl, rfl⟩) | (go_at_call 15; (with_reducible refine (HPL.out _).mono ?_); rintro e w1 ⟨rfl, rfl⟩))
                go_ret
                exact ⟨rfl, rfl⟩
            · have hrr : RR = 3 := by rw [← HR.out, HSTOP.out (by rw [h1, h2]; simp), h1, h2]; rfl
              subst hrr
              go_wp2_with (first | (go_at_call 47; (with_reducible refine (HNM.out _).mono ?_); rintro e w1 ⟨rfl, rfl⟩) | (go_at_call 15; (with_reducible refine (HPL.out _).mono ?_); rintro e w1 ⟨rfl, rfl⟩))
              go_ret
              exact ⟨rfl, rfl⟩
          · have hrr : RR = 3 := by rw [← HR.out, HSTOP.out (by rw [h1]; simp), h1]; rfl
            subst hrr
            go_wp2_with (first | (go_at_call 47; (with_reducible refine (HNM.out _).mono ?_); rintro e w1 ⟨rfl, rfl⟩) | (go_at_call 15; (with_reducible refine (HPL.out _).mono ?_); rintro e w1 ⟨rfl, rfl⟩))
            go_ret
            exact ⟨rfl, rfl⟩
    · obtain rfl : i = l.length := by omega
      have hrr : RR = 0 := by rw [← HR.out, ← HZ.out, List.take_length]
      subst hrr
      go_wp2
      go_ret
      exact ⟨rfl, rfl⟩
/-- What a request's parts hold, and how great they are. -/
structure RqAt (w : World) (vf vb : Value) (r : Rq) : Prop where
  fs : Args.FieldsAt w vf r.fields
  bs : Args.BytesAt w vb r.body
  sz : r.method.size ≤ maxLen ∧ r.path.size ≤ maxLen ∧ r.host.size ≤ maxLen
theorem RqAt.old {w w' : World} {vf vb : Value} {r : Rq} (h : RqAt w vf vb r) (hB : Below w.heap.size w w') : RqAt w' vf vb r := ⟨⟨h.fs.1.old hB, h.fs.2⟩, ⟨h.bs.1.below hB, h.bs.2⟩, h.sz⟩
structure RpAt (w : World) (vf vb : Value) (r : Rp) : Prop where
  fs : Args.FieldsAt w vf r.fields
  bs : Args.BytesAt w vb r.body
  code : Args.I64 r.code
theorem RpAt.old {w w' : World} {vf vb : Value} {r : Rp} (h : RpAt w vf vb r) (hB : Below w.heap.size w w') : RpAt w' vf vb r := ⟨⟨h.fs.1.old hB, h.fs.2⟩, ⟨h.bs.1.below hB, h.bs.2⟩, h.code⟩
set_option maxRecDepth 100000 in
set_option maxHeartbeats 8000000 in
theorem rask_any (r : Rq) (vf vb : Value) (w : World) (hr : RqAt w vf vb r) :
    Calls Tryz.prog 5 #[rqV r vf vb] w fun e w' => e = .returned (.int .i64 (askE r)) ∧ Below w.heap.size w w' := by
  obtain ⟨⟨hf, hfs⟩, ⟨hb, _⟩, h1, h2, h3⟩ := hr
  have HFI := Lib.hid (fun (W : World) (hW : Below w.heap.size w W) => rfields_any vf r.fields W (hf.old hW) hfs)
  obtain ⟨af, cf, rfl, hf'⟩ := hf
  obtain ⟨ab, cb, rfl, hb'⟩ := hb.open
  clear hf' hb' hb hfs
  have HT := Lib.hid (rtoken_any r.method h1)
  have HW := Lib.hid (rword_any r.path h2)
  have HP := Lib.hid (rplain_any r.host h3)
  unfold rqV askE fullB
  obtain ⟨RR, hRR⟩ : ∃ R, (if (decide (40 < r.fields.length) || decide (8000 < r.body.length)) = true then (4 : Int) else if (!tokL r.method.data.toList || !wordL r.path.data.toList || r.host.toList.isEmpty || !plainL r.host.data.toList) = true then 2 else fieldsE r.fields) = R := ⟨_, rfl⟩
  rw [hRR]
  have HR := Lib.hid hRR
  generalize tokL r.method.data.toList = b1 at *
  generalize wordL r.path.data.toList = b2 at *
  generalize plainL r.host.data.toList = b4 at *
  generalize fieldsE r.fields = q at *
  generalize r.fields.length = lf at *
  generalize r.body.length = lb at *
  obtain ⟨rm, rp, rh, rf, rb⟩ := r
  simp only at *
  have HS : Hid (Below w.heap.size w (w.alloc (.cells #[.string rm, .string rp, .string rh, .slice af lf cf, .slice ab lb cb] 25))) := (Below.refl _ _).alloc (Nat.le_refl _) _
  clear hRR h1 h2 h3
  by_cases f1 : 40 < lf
  · have f2 : decide ((40 : Int) < (lf : Int)) = true := decide_eq_true (by omega)
    have f3 : decide (40 < lf) = true := decide_eq_true f1
    have hrr : RR = 4 := by rw [← HR.out, f3]; simp
    subst hrr
    clear f1
    go_enter Tryz.func5, Tryz.ntmps5
    go_wp2_with fail
    go_ret
    exact ⟨rfl, HS.out⟩
  · have f2 : decide ((40 : Int) < (lf : Int)) = false := decide_eq_false (by omega)
    have f3 : decide (40 < lf) = false := decide_eq_false f1
    by_cases f4 : 8000 < lb
    · have f5 : decide ((8000 : Int) < (lb : Int)) = true := decide_eq_true (by omega)
      have f6 : decide (8000 < lb) = true := decide_eq_true f4
      have hrr : RR = 4 := by rw [← HR.out, f3, f6]; simp
      subst hrr
      clear f1 f4
      go_enter Tryz.func5, Tryz.ntmps5
      go_wp2_with fail
      go_ret
      exact ⟨rfl, HS.out⟩
    · have f5 : decide ((8000 : Int) < (lb : Int)) = false := decide_eq_false (by omega)
      have f6 : decide (8000 < lb) = false := decide_eq_false f4
      rw [f3, f6] at HR
      clear f1 f4
      rcases b1 with _ | _
      · have hrr : RR = 2 := by rw [← HR.out]; simp
        subst hrr
        go_enter Tryz.func5, Tryz.ntmps5
        go_wp2_with (first | (go_at_call 13; (with_reducible refine (HT.out _).mono ?_); rintro e w1 ⟨rfl, rfl⟩) | (go_at_call 20; (with_reducible refine (HW.out _).mono ?_); rintro e w1 ⟨rfl, rfl⟩) | (go_at_call 15; (with_reducible refine (HP.out _).mono ?_); rintro e w1 ⟨rfl, rfl⟩) | (go_at_call 21; (with_reducible refine (HFI.out _ HS.out).mono ?_); rintro e w1 ⟨rfl, rfl⟩))
        go_ret
        exact ⟨rfl, HS.out⟩
      · rcases b2 with _ | _
        · have hrr : RR = 2 := by rw [← HR.out]; simp
          subst hrr
          go_enter Tryz.func5, Tryz.ntmps5
          go_wp2_with (first | (go_at_call 13; (with_reducible refine (HT.out _).mono ?_); rintro e w1 ⟨rfl, rfl⟩) | (go_at_call 20; (with_reducible refine (HW.out _).mono ?_); rintro e w1 ⟨rfl, rfl⟩) | (go_at_call 15; (with_reducible refine (HP.out _).mono ?_); rintro e w1 ⟨rfl, rfl⟩) | (go_at_call 21; (with_reducible refine (HFI.out _ HS.out).mono ?_); rintro e w1 ⟨rfl, rfl⟩))
          go_ret
          exact ⟨rfl, HS.out⟩
        · rcases b4 with _ | _
          · have hrr : RR = 2 := by rw [← HR.out]; simp
            subst hrr
            go_enter Tryz.func5, Tryz.ntmps5
            go_wp2_with (first | (go_at_call 13; (with_reducible refine (HT.out _).mono ?_); rintro e w1 ⟨rfl, rfl⟩) | (go_at_call 20; (with_reducible refine (HW.out _).mono ?_); rintro e w1 ⟨rfl, rfl⟩) | (go_at_call 15; (with_reducible refine (HP.out _).mono ?_); rintro e w1 ⟨rfl, rfl⟩) | (go_at_call 21; (with_reducible refine (HFI.out _ HS.out).mono ?_); rintro e w1 ⟨rfl, rfl⟩))
            go_ret
            exact ⟨rfl, HS.out⟩
          · rcases b3 : rh.toList.isEmpty with _ | _
            · have hrr : RR = q := by rw [← HR.out, b3]; simp
              subst hrr
              go_enter Tryz.func5, Tryz.ntmps5
              go_wp2_with (first | (go_at_call 13; (with_reducible refine (HT.out _).mono ?_); rintro e w1 ⟨rfl, rfl⟩) | (go_at_call 20; (with_reducible refine (HW.out _).mono ?_); rintro e w1 ⟨rfl, rfl⟩) | (go_at_call 15; (with_reducible refine (HP.out _).mono ?_); rintro e w1 ⟨rfl, rfl⟩) | (go_at_call 21; (with_reducible refine (HFI.out _ HS.out).mono ?_); rintro e w1 ⟨rfl, rfl⟩))
              go_ret
              exact ⟨rfl, HS.out⟩
            · have hrr : RR = 2 := by rw [← HR.out, b3]; simp
              subst hrr
              go_enter Tryz.func5, Tryz.ntmps5
              go_wp2_with (first | (go_at_call 13; (with_reducible refine (HT.out _).mono ?_); rintro e w1 ⟨rfl, rfl⟩) | (go_at_call 20; (with_reducible refine (HW.out _).mono ?_); rintro e w1 ⟨rfl, rfl⟩) | (go_at_call 15; (with_reducible refine (HP.out _).mono ?_); rintro e w1 ⟨rfl, rfl⟩) | (go_at_call 21; (with_reducible refine (HFI.out _ HS.out).mono ?_); rintro e w1 ⟨rfl, rfl⟩))
              go_ret
              exact ⟨rfl, HS.out⟩
set_option maxRecDepth 100000 in
set_option maxHeartbeats 8000000 in
theorem rtell_any (r : Rp) (vf vb : Value) (size : Int) (w : World) (hr : RpAt w vf vb r) :
    Calls Tryz.prog 9 #[rpV r vf vb, .int .i64 size] w fun e w' => e = .returned (.int .i64 (tellE r size)) ∧ Below w.heap.size w w' := by
  obtain ⟨⟨hf, hfs⟩, ⟨hb, _⟩, _⟩ := hr
  have HFI := Lib.hid (fun (W : World) (hW : Below w.heap.size w W) => rfields_any vf r.fields W (hf.old hW) hfs)
  obtain ⟨af, cf, rfl, hf'⟩ := hf
  obtain ⟨ab, cb, rfl, hb'⟩ := hb.open
  clear hf' hb' hb hfs
  unfold rpV tellE fullB
  obtain ⟨RR, hRR⟩ : ∃ R, (if (decide (40 < r.fields.length) || decide (8000 < r.body.length)) = true then (4 : Int) else if (decide (r.code < 100) || decide (599 < r.code) || decide (size < 0)) = true then 1 else fieldsE r.fields) = R := ⟨_, rfl⟩
  rw [hRR]
  have HR := Lib.hid hRR
  generalize fieldsE r.fields = q at *
  generalize r.fields.length = lf at *
  generalize r.body.length = lb at *
  obtain ⟨rc, rf, rb⟩ := r
  simp only at *
  have HS : Hid (Below w.heap.size w (w.alloc (.cells #[.int .i64 rc, .slice af lf cf, .slice ab lb cb] 27))) := (Below.refl _ _).alloc (Nat.le_refl _) _
  clear hRR
  by_cases f1 : 40 < lf
  · have f2 : decide ((40 : Int) < (lf : Int)) = true := decide_eq_true (by omega)
    have f3 : decide (40 < lf) = true := decide_eq_true f1
    have hrr : RR = 4 := by rw [← HR.out, f3]; simp
    subst hrr
    clear f1
    go_enter Tryz.func9, Tryz.ntmps9
    go_wp2_with fail
    go_ret
    exact ⟨rfl, HS.out⟩
  · have f2 : decide ((40 : Int) < (lf : Int)) = false := decide_eq_false (by omega)
    have f3 : decide (40 < lf) = false := decide_eq_false f1
    by_cases f4 : 8000 < lb
    · have f5 : decide ((8000 : Int) < (lb : Int)) = true := decide_eq_true (by omega)
      have f6 : decide (8000 < lb) = true := decide_eq_true f4
      have hrr : RR = 4 := by rw [← HR.out, f3, f6]; simp
      subst hrr
      clear f1 f4
      go_enter Tryz.func9, Tryz.ntmps9
      go_wp2_with fail
      go_ret
      exact ⟨rfl, HS.out⟩
    · have f5 : decide ((8000 : Int) < (lb : Int)) = false := decide_eq_false (by omega)
      have f6 : decide (8000 < lb) = false := decide_eq_false f4
      rw [f3, f6] at HR
      clear f1 f4
      by_cases h1 : rc < 100
      · have e1 : decide (rc < 100) = true := decide_eq_true h1
        have hrr : RR = 1 := by rw [← HR.out, e1]; simp
        subst hrr
        go_enter Tryz.func9, Tryz.ntmps9
        go_wp2_with fail
        go_ret
        exact ⟨rfl, HS.out⟩
      · have e1 : decide (rc < 100) = false := decide_eq_false h1
        by_cases h2 : 599 < rc
        · have e2 : decide (599 < rc) = true := decide_eq_true h2
          have hrr : RR = 1 := by rw [← HR.out, e1, e2]; simp
          subst hrr
          go_enter Tryz.func9, Tryz.ntmps9
          go_wp2_with fail
          go_ret
          exact ⟨rfl, HS.out⟩
        · have e2 : decide (599 < rc) = false := decide_eq_false h2
          by_cases h3 : size < 0
          · have e3 : decide (size < 0) = true := decide_eq_true h3
            have hrr : RR = 1 := by rw [← HR.out, e1, e2, e3]; simp
            subst hrr
            go_enter Tryz.func9, Tryz.ntmps9
            go_wp2_with fail
            go_ret
            exact ⟨rfl, HS.out⟩
          · have e3 : decide (size < 0) = false := decide_eq_false h3
            have hrr : RR = q := by rw [← HR.out, e1, e2, e3]; simp
            subst hrr
            go_enter Tryz.func9, Tryz.ntmps9
            go_wp2_with (go_at_call 21; (with_reducible refine (HFI.out _ HS.out).mono ?_); rintro e w1 ⟨rfl, rfl⟩)
            go_ret
            exact ⟨rfl, HS.out⟩
end Go.Proofs.YtincckopnebceaaGreatDoor.LineM
