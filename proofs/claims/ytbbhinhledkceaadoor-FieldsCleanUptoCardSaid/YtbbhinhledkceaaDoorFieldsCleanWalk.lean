/-
  The law FieldsClean's walk: what stays between two sides stays there.
  Conditions: the sum of the values' lengths; bytealg.MaxLen's cell.
-/
import Derived.Test.YtbbhinhledkceaaDoorCleanC
import Derived.Test.YtbbhinhledkceaaDoorTokRef
import Derived.Test.YtbbhinhledkceaaDoorBulk
import Derived.Laws.StructEq
import Derived.Shelf.SlicesE.Kit
import Derived.Lib.Index
namespace Go.Proofs.YtbbhinhledkceaaDoor.FieldsC
open Go.RowKit Go.Shelf RowsK RowsM FieldRows LineC
set_option linter.unusedVariables false
set_option linter.unusedSimpArgs false

def connS : ByteArray := ⟨#[99, 111, 110, 110, 101, 99, 116, 105, 111, 110]⟩
def factL : List Fld := [(connS, ⟨#[97, 44, 32, 98]⟩), (⟨#[98]⟩, ⟨#[49]⟩), (⟨#[99]⟩, ⟨#[]⟩)]
theorem toL (a : List UInt8) : (⟨a.toArray⟩ : ByteArray).toList = a := by rw [ByteArray.toList_eq]
theorem isConn_data (s : ByteArray) : isConn s = (s.data.toList == [99, 111, 110, 110, 101, 99, 116, 105, 111, 110]) := by unfold isConn; rw [ByteArray.toList_eq]
theorem between_data (s : ByteArray) : betweenB s = (s.data.toList == [99, 111, 110, 110, 101, 99, 116, 105, 111, 110] || s.data.toList == [99, 111, 100, 105, 110, 103] || s.data.toList == [107, 101, 101, 112] || s.data.toList == [117, 112, 103, 114, 97, 100, 101]) := by unfold betweenB; rw [isConn_data, ByteArray.toList_eq]
theorem isLength_data (s : ByteArray) : isLength s = (s.data.toList == [108, 101, 110, 103, 116, 104]) := by unfold isLength; rw [ByteArray.toList_eq]
theorem conn_is : isConn connS = true := by rw [isConn_data]; rfl
theorem clean_mem {l : List Fld} {f : Fld} (h : f ∈ cleanL l) : goneB (named l) f = false := by
  have := (List.mem_filter.1 h).2
  simpa using this
theorem gone_parts {ns : List ByteArray} {f : Fld} (h : goneB ns f = false) : (f.1.toList == [99, 111, 110, 110, 101, 99, 116, 105, 111, 110]) = false ∧ (f.1.toList == [99, 111, 100, 105, 110, 103]) = false ∧ (f.1.toList == [107, 101, 101, 112]) = false ∧ (f.1.toList == [117, 112, 103, 114, 97, 100, 101]) = false ∧ (f.1.toList == [108, 101, 110, 103, 116, 104]) = false ∧ f.1 ∉ ns := by
  unfold goneB betweenB isLength isConn at h
  simp only [Bool.or_eq_false_iff] at h
  obtain ⟨⟨⟨⟨⟨h1, h2⟩, h3⟩, h4⟩, h5⟩, h6⟩ := h
  exact ⟨h1, h2, h3, h4, h5, fun hm => by rw [(Lib.containsS_iff ns f.1).2 hm] at h6; cases h6⟩
/-- A token is one piece. -/
theorem token_parts {s : ByteArray} (h : tokF s = true) : partsOf s = [s] := by
  have hm : Lib.indexB s sepS = -1 := by
    show Lib.index s.data.toList sepS.data.toList = -1
    refine Lib.index_none fun j hj => ?_
    rcases e : Lib.occAt s.data.toList sepS.data.toList j with _ | _
    · rfl
    · exfalso
      unfold Lib.occAt at e
      have hp := List.isPrefixOf_iff_prefix.1 e
      have hin : (44 : UInt8) ∈ s.data.toList := List.mem_of_mem_drop (hp.subset (by decide))
      unfold tokF tokL at h
      simp only [Bool.and_eq_true, List.all_eq_true] at h
      exact absurd (h.2 44 hin) (by decide)
  unfold partsOf
  rw [Lib.countB_miss _ _ hm]
  rfl
theorem named_more {name : ByteArray} (h : tokF name = true) (l : List Fld) : named ((connS, name) :: l) = name :: named l := by
  have e : namesOf (connS, name) = [name] := by
    unfold namesOf
    rw [conn_is, if_pos rfl, token_parts h]
    simp [h]
  show namesOf (connS, name) ++ named l = _
  rw [e]; rfl
theorem bytes_eq {a b : ByteArray} (h : (a.toList == b.toList) = true) : a = b := by
  rw [ByteArray.toList_eq, ByteArray.toList_eq, beq_iff_eq] at h
  obtain ⟨⟨x⟩⟩ := a
  obtain ⟨⟨y⟩⟩ := b
  simp only at h
  rw [h]
theorem more_not {name : ByteArray} (h : tokF name = true) {l : List Fld} {f : Fld} (hf : f ∈ cleanL ((connS, name) :: l)) : (f.1.toList == name.toList) = false := by
  have h6 := (gone_parts (clean_mem hf)).2.2.2.2.2
  rw [named_more h] at h6
  rcases e : (f.1.toList == name.toList) with _ | _
  · rfl
  · exact absurd (by rw [bytes_eq e]; simp) h6
theorem more_len {name : ByteArray} (h : tokF name = true) (l : List Fld) : (cleanL ((connS, name) :: l)).length ≤ (cleanL l).length := by
  unfold cleanL
  rw [named_more h]
  have hg : goneB (name :: named l) (connS, name) = true := by
    unfold goneB betweenB
    rw [conn_is]; rfl
  rw [List.filter_cons, hg]
  simp only [Bool.not_true, Bool.false_eq_true, if_false]
  rw [← List.countP_eq_length_filter, ← List.countP_eq_length_filter]
  refine List.countP_mono_left fun f _ hk => ?_
  have hk2 : goneB (name :: named l) f = false := by simpa using hk
  obtain ⟨h1, h2, h3, h4, h5, h6⟩ := gone_parts hk2
  have : Lib.containsS (named l) f.1 = false := by
    rcases e : Lib.containsS (named l) f.1 with _ | _
    · rfl
    · exact absurd (List.mem_cons_of_mem _ ((Lib.containsS_iff _ _).1 e)) h6
  unfold goneB betweenB isConn isLength
  rw [h1, h2, h3, h4, h5, this]; rfl
theorem fact_parts : partsOf ⟨#[97, 44, 32, 98]⟩ = [⟨#[97]⟩, ⟨#[98]⟩] := by kernel_rfl
theorem fact_named : named factL = [⟨#[97]⟩, ⟨#[98]⟩] := by
  unfold named factL namesOf
  simp only [List.flatMap_cons, List.flatMap_nil, conn_is, if_true, fact_parts, isConn_data]
  rfl
theorem fact_clean : cleanL factL = [(⟨#[99]⟩, ⟨#[]⟩)] := by
  unfold cleanL
  rw [fact_named]
  unfold factL goneB
  simp only [between_data, isLength_data]
  kernel_rfl
/-- Where the one list stands in the other. -/
theorem sub_step {l C : List Fld} {k i : Nat} {p : Fld → Bool} (hk : k < l.length) (hi : i < C.length) (h : (l.drop k).filter p = C.drop i) (hp : p C[i] = true) :
    (l[k] ≠ C[i] → (l.drop (k + 1)).filter p = C.drop i) ∧ (l[k] = C[i] → (l.drop (k + 1)).filter p = C.drop (i + 1)) := by
  rw [List.drop_eq_getElem_cons hk, List.filter_cons, List.drop_eq_getElem_cons hi] at h
  constructor
  · intro hne
    by_cases hpk : p l[k] = true
    · rw [if_pos hpk] at h
      exact absurd (List.cons.inj h).1 hne
    · rw [if_neg hpk] at h
      rw [h, List.drop_eq_getElem_cons hi]
  · intro he
    rw [he, if_pos hp] at h
    exact (List.cons.inj h).2
theorem sub_end {l C : List Fld} {i : Nat} {p : Fld → Bool} (hi : i < C.length) (h : (l.drop l.length).filter p = C.drop i) : False := by
  rw [List.drop_length, List.drop_eq_getElem_cons hi] at h
  cases h
theorem neqF (x0 x1 y0 y1 : ByteArray) (w : World) : (binOp .neq 25 (.agg #[.string x0, .string x1]) (.agg #[.string y0, .string y1])).run Tryd.prog w = .ok (.bool (!(x0.toList == y0.toList && x1.toList == y1.toList))) w := by
  have hS : Tryd.prog.underlying 25 = some (.struct (Tryd.prog.fieldsOf 25)) := by kernel_rfl
  have hp : Tryd.prog.stoodInHeld 25 = false := by kernel_rfl
  have u := Tryd.underlying9
  have a := Tryd.isAgg9
  have z := Tryd.sizeOf9
  rw [run_neq_struct, show (10000 : Nat) = 9999 + 1 from rfl, run_equalIn_agg w 9999 25 _ _ hS hp]
  simp only [Program.fieldsOf, Tryd.underlying25]
  go_simp
  by_cases h1 : x0.toList = y0.toList <;> by_cases h2 : x1.toList = y1.toList <;> simp [h1, h2]
theorem guardF : GuardAt Tryd.prog 25 (fun x : Fld => .agg (encF.enc x).toArray) := GuardAt.agg _ (by kernel_rfl)
theorem at_cells {w : World} {v : Value} {l : List Fld} (h : At encF w v l) {a : Option Addr} {n c : Nat} (hv : v = .slice a n c) {i : Nat} (hi : i < n) : ∃ b off, a = some ⟨b, off, none⟩ ∧ b < w.heap.size ∧ l.length = n ∧ w.cell? ⟨b, off + i * 2, none⟩ = some (.string (l.getD i default).1) ∧ w.cell? ⟨b, off + i * 2 + 1, none⟩ = some (.string (l.getD i default).2) := by
  obtain ⟨a', cap', rfl, _, _, _, hel⟩ := h
  simp only [Value.slice.injEq] at hv
  obtain ⟨rfl, rfl, rfl⟩ := hv
  obtain ⟨b, off, e, hb, hc⟩ := hel i hi
  have hx : l.getD i default = l[i] := by rw [List.getD_eq_getElem?_getD, List.getElem?_eq_getElem hi]; rfl
  rw [hx]
  exact ⟨b, off, e, hb, rfl, hc 0 (by decide), hc 1 (by decide)⟩
set_option maxRecDepth 100000 in
set_option maxHeartbeats 8000000 in
theorem walk (v : Value) (l : List Fld) (name : ByteArray) (w : World) (m : Int) (hl : At encF w v l) (hwt : weight l + name.size < 900000000) (hm : w.cell? ⟨2, 0, none⟩ = some (.int .i64 m)) :
    Calls Tryd.prog 3 #[v, .string name] w fun e w' => e = .returned (.bool true) ∧ Below w.heap.size w w' := by
  have hm2 : 2 < w.heap.size := block_lt_of_cell hm
  have hM : ∀ W, Below w.heap.size w W → W.cell? ⟨2, 0, none⟩ = some (.int .i64 m) := fun W hB => (hB.cell (p := ⟨2, 0, none⟩) hm2).trans hm
  have hln := len_weight l
  obtain ⟨g, n, cap, rfl⟩ : ∃ g n cap, v = .slice g n cap := by obtain ⟨a, c, e, _⟩ := hl; exact ⟨_, _, _, e⟩
  have hn : l.length = n := by
    obtain ⟨a', cap', e, _⟩ := hl
    simp only [Value.slice.injEq] at e
    exact e.2.1.symm
  have HF : Hid (Calls Tryd.prog 5 #[.slice (some ⟨w.heap.size, 0, none⟩) 3 3] (w.alloc (.cells #[.string ⟨#[99, 111, 110, 110, 101, 99, 116, 105, 111, 110]⟩, .string ⟨#[97, 44, 32, 98]⟩, .string ⟨#[98]⟩, .string ⟨#[49]⟩, .string ⟨#[99]⟩, .string ⟨#[]⟩] 25)) fun e w' => ∃ b c, e = .returned (.slice (some ⟨b, 0, none⟩) 1 c) ∧ w'.cell? ⟨b, 0, none⟩ = some (.string ⟨#[99]⟩) ∧ Below w.heap.size w w') := by
    have hat : At encF (w.alloc (.cells #[.string ⟨#[99, 111, 110, 110, 101, 99, 116, 105, 111, 110]⟩, .string ⟨#[97, 44, 32, 98]⟩, .string ⟨#[98]⟩, .string ⟨#[49]⟩, .string ⟨#[99]⟩, .string ⟨#[]⟩] 25)) (.slice (some ⟨w.heap.size, 0, none⟩) 3 3) factL := (Own.lit (E := encF) (e := 25) w #[.string ⟨#[99, 111, 110, 110, 101, 99, 116, 105, 111, 110]⟩, .string ⟨#[97, 44, 32, 98]⟩, .string ⟨#[98]⟩, .string ⟨#[49]⟩, .string ⟨#[99]⟩, .string ⟨#[]⟩] factL (Nat.le_refl _) (by simp [factL]) rfl).at_
    have hB0 := (Below.refl w.heap.size w).alloc (Nat.le_refl _) (.cells #[.string ⟨#[99, 111, 110, 110, 101, 99, 116, 105, 111, 110]⟩, .string ⟨#[97, 44, 32, 98]⟩, .string ⟨#[98]⟩, .string ⟨#[49]⟩, .string ⟨#[99]⟩, .string ⟨#[]⟩] 25)
    refine (clean_any _ factL _ m hat (by decide) (hM _ hB0)).mono ?_
    rintro e w' ⟨a, k, c, rfl, hO, hB⟩
    rw [fact_clean] at hO
    obtain ⟨b, cap', e, _, _, _, _, hc⟩ := hO.slice1 1 rfl (by decide)
    rw [e]
    exact ⟨b, cap', rfl, hc 0 (by simp) 0 (by decide), hB0.trans (hB.mono (by simp))⟩
  have HC : Hid (∀ W, Below w.heap.size w W → Calls Tryd.prog 5 #[.slice g n cap] W fun e w' => ∃ a k c, e = .returned (.slice a k c) ∧ (cleanL l).length = k ∧ Own encF w' W.heap.size 25 (.slice a k c) (cleanL l) ∧ Below W.heap.size W w') := fun W hB => by
    refine (clean_any _ l W m (hl.old hB) (by omega) (hM W hB)).mono ?_
    rintro e w' ⟨a, k, c, rfl, hO, hB2⟩
    refine ⟨a, k, c, rfl, ?_, hO, hB2⟩
    obtain ⟨a', c', e, _⟩ := hO.slice
    simp only [Value.slice.injEq] at e
    exact e.2.1.symm
  have HT := Lib.hid (fun W => rtoken_any name (by simp only [maxLen]; omega) W)
  have htt : tokL name.data.toList = tokF name := rfl
  rw [htt] at HT
  have HM := Lib.hid hM
  have HL := Lib.hid hl
  have HW := Lib.hid hwt
  have HN := Lib.hid hn
  rw [hn] at hln
  have hneq := neqF
  have hgd := guardF
  clear hm hM hl hwt hn htt
  go_enter Tryd.func3, Tryd.ntmps3
  go_wp2_with (first
    | (go_at_call 5; (with_reducible refine HF.out.mono ?_); rintro e w1 ⟨b0, c0, rfl, k0, hB1⟩)
    | (go_at_call 5; (with_reducible refine (HC.out _ hB1).mono ?_); rintro e w2 ⟨a2, k2, c2, rfl, hk2, hO2, hB2⟩; have HO2 := Lib.hid hO2; have HK2 := Lib.hid hk2; clear hO2 hk2))
  have hB12 : Below w.heap.size w w2 := hB1.trans (hB2.mono hB1.size)
  have HLEN := Lib.hid (fun (h : tokF name = true) => more_len h l)
  have HC0 : Hid (cleanL l = l.filter fun f => !goneB (named l) f) := rfl
  have HME := Lib.hid (fun f (hf : f ∈ cleanL l) => clean_mem hf)
  obtain ⟨C, hC⟩ : ∃ C, cleanL l = C := ⟨_, rfl⟩
  rw [hC] at HO2 HK2 HLEN HC0 HME
  obtain ⟨kp, hkp⟩ : ∃ kp : Fld → Bool, (fun f => !goneB (named l) f) = kp := ⟨_, rfl⟩
  rw [hkp] at HC0
  have HKP := Lib.hid hkp
  have HB12 := Lib.hid hB12
  have hnb : n < 900000000 := by have := HW.out; omega
  have hkb : k2 < 900000000 := by
    have h1 := List.length_filter_le kp l
    rw [← HC0.out, HK2.out, HN.out] at h1
    omega
  clear hB1 hB2 k0 hC hkp hB12 HF
  go_loopw [7, 8] (fun kv iv wr => ∃ k i : Nat, kv = .int .i64 k ∧ iv = .int .i64 i ∧ k ≤ n ∧ i ≤ k2 ∧ Hid ((l.drop k).filter kp = C.drop i) ∧ Hid (Below w2.heap.size w2 wr)) (fun _ iv _ => k2 - (intOf iv).toNat)
  case atStart => exact ⟨0, 0, rfl, rfl, by omega, by omega, HC0.out.symm, Below.refl _ _⟩
  case round =>
    obtain ⟨k, i, rfl, rfl, hk, hi, HS, HB⟩ := hrel
    by_cases hlt : i < k2
    · obtain ⟨b, off, rfl, hb, _, c0, c1⟩ := at_cells (HO2.out.at_.old HB.out) rfl hlt
      have hmem : C.getD i default ∈ C := by
        rw [List.getD_eq_getElem?_getD, List.getElem?_eq_getElem (by rw [HK2.out]; exact hlt)]
        exact List.getElem_mem _
      have hgp := gone_parts (HME.out _ hmem)
      have hkpi : kp (C.getD i default) = true := by rw [← HKP.out]; show (!goneB (named l) (C.getD i default)) = true; rw [HME.out _ hmem]; rfl
      obtain ⟨ca, cb, hcc⟩ : ∃ ca cb, C.getD i default = (ca, cb) := ⟨_, _, rfl⟩
      rw [hcc] at c0 c1 hgp hkpi
      simp only at c0 c1 hgp
      obtain ⟨q1, q2, q3, q4, q5, _⟩ := hgp
      have HCC := Lib.hid hcc
      have HKI := Lib.hid hkpi
      clear hmem hcc hkpi
      have hi0 : (0 : Int) ≤ (i : Int) := by omega
      have hi1 : (i : Int) < (k2 : Int) := by omega
      go_wp2_with fail
      clear q1 q2 q3 q4 q5
      obtain ⟨wo, hwo⟩ : ∃ wo : World, wo = wr := ⟨_, rfl⟩
      subst hwo
      go_loopw [7] (fun kv wr => ∃ k : Nat, kv = .int .i64 k ∧ k ≤ n ∧ Hid ((l.drop k).filter kp = C.drop i) ∧ Hid (Below w2.heap.size w2 wr)) (fun kv _ => n - (intOf kv).toNat)
      case atStart => exact ⟨k, rfl, hk, HS.out, HB.out⟩
      case round =>
        obtain ⟨k1, rfl, hk1, HS1, HB1⟩ := hrel
        obtain ⟨_, _, e0, _, _, d0, d1⟩ := at_cells (HO2.out.at_.old HB1.out) rfl hlt
        simp only [Option.some.injEq, Addr.mk.injEq, and_true] at e0
        obtain ⟨rfl, rfl⟩ := e0
        rw [HCC.out] at d0 d1
        simp only at d0 d1
        clear c0 c1
        by_cases hkn : k1 < n
        · obtain ⟨bl, ofl, rfl, hbl, _, a0, a1⟩ := at_cells ((HL.out.old HB12.out).old HB1.out) rfl hkn
          have hst := sub_step (l := l) (C := C) (k := k1) (i := i) (p := kp) (by rw [HN.out]; exact hkn) (by rw [HK2.out]; exact hlt) HS1.out (by have h := HKI.out; rw [← HCC.out, List.getD_eq_getElem?_getD, List.getElem?_eq_getElem (by rw [HK2.out]; exact hlt)] at h; exact h)
          have hci : C[i]'(by rw [HK2.out]; exact hlt) = (ca, cb) := by have h := HCC.out; rw [List.getD_eq_getElem?_getD, List.getElem?_eq_getElem (by rw [HK2.out]; exact hlt)] at h; exact h
          have hla : l.getD k1 default = l[k1]'(by rw [HN.out]; exact hkn) := by rw [List.getD_eq_getElem?_getD, List.getElem?_eq_getElem (by rw [HN.out]; exact hkn)]; rfl
          rw [hci] at hst
          rw [hla] at a0 a1
          obtain ⟨la, lb, hll⟩ : ∃ la lb, l[k1]'(by rw [HN.out]; exact hkn) = (la, lb) := ⟨_, _, rfl⟩
          rw [hll] at a0 a1 hst
          simp only at a0 a1
          have HST := Lib.hid hst
          have hk0 : (0 : Int) ≤ (k1 : Int) := by omega
          have hk1' : (k1 : Int) < (n : Int) := by omega
          have f1 : decide ((k1 : Int) < (n : Int)) = true := decide_eq_true hk1'
          have f2 : decide (k1 < n) = true := decide_eq_true hkn
          have HKN : Hid (∃ r, n = k1 + 1 + r) := ⟨n - (k1 + 1), by omega⟩
          have HLT := Lib.hid hlt
          have hne := hneq la lb ca cb
          have hgu := fun op a b w => hgd op a b (la, lb) (ca, cb) w
          clear hst hci hla hll hneq hgd
          rcases heq : (la.toList == ca.toList && lb.toList == cb.toList) with _ | _
          · rw [heq] at hne
            simp only [Bool.not_false] at hne
            go_upto_region 12 with fail
            go_quiet (fail)
            go_wp2_with fail
            go_roundw
            case measure => obtain ⟨r, hr⟩ := HKN.out; simp [intOf]; omega
            case rel =>
              obtain ⟨r, hr⟩ := HKN.out
              refine ⟨k1 + 1, (by go_num), by omega, HST.out.1 (fun e => ?_), below_drewN' HB1.out _⟩
              obtain ⟨rfl, rfl⟩ := Prod.mk.inj e
              simp at heq
          · rw [heq] at hne
            simp only [Bool.not_true] at hne
            have hnk : ¬ (k1 : Int) = (n : Int) := by omega
            go_upto_region 12 with fail
            go_quiet (fail)
            go_wp2_with fail
            go_roundw
            case measure => have := HLT.out; simp [intOf]; omega
            case rel =>
              obtain ⟨r, hr⟩ := HKN.out
              have := HLT.out
              simp only [Bool.and_eq_true] at heq
              exact ⟨k1 + 1, i + 1, (by go_num), (by go_num), by omega, by omega, HST.out.2 (Prod.ext (bytes_eq heq.1) (bytes_eq heq.2)), below_drewN' HB1.out _⟩
        · exfalso
          have hkk : k1 = l.length := by rw [HN.out]; omega
          have h := HS1.out
          rw [hkk] at h
          exact sub_end (by rw [HK2.out]; exact hlt) h
    · have hik : ¬ (i : Int) < (k2 : Int) := by omega
      have hB0 := HB12.out.trans (HB.out.mono HB12.out.size)
      have hsz := hB0.size
      rcases htk : tokF name with _ | _
      · rw [htk] at HT
        go_wp2_with (go_at_call 6; (with_reducible refine (HT.out _).mono ?_); rintro e w3 ⟨rfl, rfl⟩)
        go_ret
        exact ⟨rfl, hB0⟩
      · rw [htk] at HT
        have HB0 := Lib.hid hB0
        have hlit : Own encF (wr.alloc (.cells #[.string ⟨#[99, 111, 110, 110, 101, 99, 116, 105, 111, 110]⟩, .string name] 25)) w.heap.size 25 (.slice (some ⟨wr.heap.size, 0, none⟩) 1 1) [(connS, name)] := Own.lit wr #[.string connS, .string name] [(connS, name)] hsz (by simp) rfl
        have HLI := Lib.hid hlit
        have HLW := Lib.hid ((HL.out.old hB0).old ((Below.refl _ _).alloc (Nat.le_refl _) (.cells #[.string ⟨#[99, 111, 110, 110, 101, 99, 116, 105, 111, 110]⟩, .string name] 25)))
        have hB4 : Below w.heap.size w (wr.alloc (.cells #[.string ⟨#[99, 111, 110, 110, 101, 99, 116, 105, 111, 110]⟩, .string name] 25)) := hB0.alloc hsz _
        have HDD : Hid (∀ (W : World) (v' : Value), Below w.heap.size w W → At encF W v' ([(connS, name)] ++ l) → Calls Tryd.prog 5 #[v'] W fun e w' => ∃ a k c, e = .returned (.slice a k c) ∧ k ≤ k2 ∧ (cleanL ((connS, name) :: l)).length = k ∧ At encF w' (.slice a k c) (cleanL ((connS, name) :: l)) ∧ Below W.heap.size W w') := fun W v' hB hA => by
          refine (clean_any v' ((connS, name) :: l) W m hA (by have h := HW.out; simp only [weight, List.map_cons, List.sum_cons] at h ⊢; omega) (HM.out W hB)).mono ?_
          rintro e w' ⟨a, k, c, rfl, hO, hB2⟩
          have hk : (cleanL ((connS, name) :: l)).length = k := by
            obtain ⟨a', c', e, _⟩ := hO.slice
            simp only [Value.slice.injEq] at e
            exact e.2.1.symm
          have := HLEN.out htk
          rw [HK2.out, hk] at this
          exact ⟨a, k, c, rfl, this, hk, hO.at_, hB2⟩
        have hlen : l.length + 1 < 1000000000 := by have := HN.out; have := HW.out; omega
        have HLN := Lib.hid hlen
        clear hlit hB0 hlen
        go_wp2_with (first
          | (go_at_call 6; (with_reducible refine (HT.out _).mono ?_); rintro e w3 ⟨rfl, rfl⟩)
          | (at_builtin; refine wpList_append elemF rfl _ _ rfl w.heap.size _ rfl HLI.out _ _ rfl HLW.out (by have := HLN.out; simp; omega) (by simp; omega) ?_; intro v5 w5 hown5 hB5 hg5 hat5; obtain ⟨a5, n5, c5, rfl⟩ := own_form hown5; have HA5 := Lib.hid hown5.at_; have HB5 := Lib.hid (hB4.trans hB5); clear hown5 hB5 hg5 hat5)
          | (go_at_call 5; (with_reducible refine (HDD.out _ _ HB5.out HA5.out).mono ?_); rintro e w6 ⟨a6, k6, c6, rfl, hk6, hl6, hA6, hB6⟩; have HA6 := Lib.hid hA6; have HL6 := Lib.hid hl6; have HB6 := Lib.hid (HB5.out.trans (hB6.mono HB5.out.size)); clear hA6 hl6 hB6))
        have HKL := Lib.hid hk6
        obtain ⟨D, hD⟩ : ∃ D, cleanL ((connS, name) :: l) = D := ⟨_, rfl⟩
        have HMN := Lib.hid (fun f (hf : f ∈ cleanL ((connS, name) :: l)) => more_not htk hf)
        rw [hD] at HA6 HL6 HMN
        clear hD
        have hdl : (k6 : Int) ≤ (k2 : Int) := by omega
        go_loopw [13] (fun jv wr => ∃ j : Nat, jv = .int .i64 j ∧ j ≤ k6 ∧ Hid (Below w6.heap.size w6 wr)) (fun jv _ => k6 - (intOf jv).toNat)
        case atStart => exact ⟨0, rfl, by omega, Below.refl _ _⟩
        case round =>
          obtain ⟨j, rfl, hj, HBJ⟩ := hrel
          by_cases hjl : j < k6
          · obtain ⟨b6, o6, rfl, _, _, c60, _⟩ := at_cells (HA6.out.old HBJ.out) rfl hjl
            have hmem : D.getD j default ∈ D := by
              rw [List.getD_eq_getElem?_getD, List.getElem?_eq_getElem (by rw [HL6.out]; exact hjl)]
              exact List.getElem_mem _
            have hno := HMN.out _ hmem
            generalize (D.getD j default).1 = dn at c60 hno
            clear hmem
            have hj0 : (0 : Int) ≤ (j : Int) := by omega
            have hj1 : (j : Int) < (k6 : Int) := by omega
            go_wp2_with fail
            go_roundw
            case measure => simp [intOf]; omega
            case rel => exact ⟨j + 1, (by go_num), by omega, HBJ.out⟩
          · have hjn : ¬ (j : Int) < (k6 : Int) := by omega
            go_wp2_with fail
            go_ret
            exact ⟨rfl, HB6.out.trans (HBJ.out.mono HB6.out.size)⟩
end Go.Proofs.YtbbhinhledkceaaDoor.FieldsC
namespace Go.Proofs.YtbbhinhledkceaaDoor.WalkFieldsClean
open Go.RowKit RowsK FieldRows
theorem weight_fw (l : List Fld) : FieldsC.weight l ≤ (l.map Args.fw).sum := by
  induction l with
  | nil => simp [FieldsC.weight]
  | cons a l ih => simp only [FieldsC.weight, List.map_cons, List.sum_cons, Args.fw] at ih ⊢; omega
theorem walk (v : Value) (z : List Fld) (name : ByteArray) (w : World) (f0 : Args.FieldsAt w v z) (u0 : (z.map Args.fw).sum + 1 ≤ 1048576) (s1 : name.size + 1 ≤ 1048576) (hm : ∃ m : Int, w.cell? ⟨2, 0, none⟩ = some (.int .i64 m)) :
    Calls Tryd.prog 3 #[v, .string name] w fun e w' => e = .returned (.bool true) ∧ Below w.heap.size w w' := by
  obtain ⟨m, hm⟩ := hm
  exact FieldsC.walk v z name w m f0.1 (by have := weight_fw z; omega) hm
end Go.Proofs.YtbbhinhledkceaaDoor.WalkFieldsClean
