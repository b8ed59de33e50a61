/-
  The walk of the law LogBack.
  Conditions: how long the text is; the variables that strconv reads.
-/
import Derived.Test.YtcpkikillmmjcaaGreatDoorLogR
import Derived.Test.YtcpkikillmmjcaaGreatDoorLogS
import Derived.Test.YtcpkikillmmjcaaGreatDoorLogRank
import Derived.Deep.CutRange
import Derived.Deep.CutBlock
import Derived.Laws.StructEq
namespace Go.Proofs.YtcpkikillmmjcaaGreatDoor.WalkLogBack
open Go.RowKit LogC LogP RowsK Args IterI
set_option linter.unusedVariables false
set_option linter.unusedSimpArgs false

theorem sorted_pw (zs : List Int) : (sortL zs).Pairwise (fun a b => a ≤ b) := by
  have h := List.pairwise_mergeSort (le := fun x y : Int => decide (x ≤ y)) (fun a b c h1 h2 => by simp only [decide_eq_true_eq] at h1 h2 ⊢; omega) (fun a b => by simp; omega) zs
  exact h.imp fun h => by simpa using h
/-- The number at the hundredth hundredth is the greatest. -/
theorem rank_most (zs : List Int) (h0 : 0 < zs.length) (z : Int) (hz : z ∈ zs) : z ≤ rankV zs 100 := by
  obtain ⟨l1, e1⟩ := rankI_lt (n := zs.length) h0 (show (1 : Int) ≤ 100 by decide) (by decide)
  have k1 : rankI zs.length 100 < (sortL zs).length := by rw [sortL_len]; exact l1
  have hm : z ∈ sortL zs := List.mem_mergeSort.2 hz
  obtain ⟨i, hi, rfl⟩ := List.getElem_of_mem hm
  have hi2 := hi
  rw [sortL_len] at hi2
  have hle : i ≤ rankI zs.length 100 := by omega
  unfold rankV
  rw [List.getD_eq_getElem?_getD, List.getElem?_eq_getElem k1]
  simp only [Option.getD_some]
  rcases Nat.lt_or_ge i (rankI zs.length 100) with h | h
  · exact List.pairwise_iff_getElem.1 (sorted_pw zs) _ _ hi k1 h
  · have e : i = rankI zs.length 100 := by omega
    simp only [e]; exact Int.le_refl _
theorem neqE (en : En) (w : World) : (binOp .neq 23 (.agg #[.int .i64 en.time, .int .i64 en.code, .int .i64 en.bytes, .int .i64 en.took, .string en.method, .string en.path]) (.agg #[.int .i64 en.time, .int .i64 en.code, .int .i64 en.bytes, .int .i64 en.took, .string en.method, .string en.path])).run Tryz.prog w = .ok (.bool false) w := by
  have hS : Tryz.prog.underlying 23 = some (.struct (Tryz.prog.fieldsOf 23)) := by kernel_rfl
  have hp : Tryz.prog.stoodInHeld 23 = false := by kernel_rfl
  have u := Tryz.underlying9
  have a := Tryz.isAgg9
  have z := Tryz.sizeOf9
  have u2 := Tryz.underlying3
  have a2 := Tryz.isAgg3
  have z2 := Tryz.sizeOf3
  rw [run_neq_struct, show (10000 : Nat) = 9999 + 1 from rfl, run_equalIn_agg w 9999 23 _ _ hS hp]
  simp only [Program.fieldsOf, Tryz.underlying23]
  go_simp
def en0 : En := ⟨7, 200, 5, 1, ⟨#[71, 69, 84]⟩, ⟨#[47]⟩⟩
theorem fact0 : parseS ⟨#[55, 32, 50, 48, 48, 32, 53, 32, 49, 32, 71, 69, 84, 32, 47]⟩ = some en0 := by
  have d : ∀ n, n < 10 → Lib.decDigits n = [UInt8.ofNat (48 + n)] := fun n h => by rw [Lib.decDigits, dif_pos h]
  have h200 : Lib.decDigits 200 = [50, 48, 48] := by
    rw [Lib.decDigits, dif_neg (by decide), show 200 / 10 = 20 from rfl, Lib.decDigits, dif_neg (by decide), show 20 / 10 = 2 from rfl, d 2 (by decide)]
    rfl
  refine parse_write en0 (by decide) _ ?_
  unfold writeE partsE
  have i0 : Lib.itoa en0.time = [55] := by show Lib.itoa 7 = _; unfold Lib.itoa; rw [if_neg (by decide)]; exact d 7 (by decide)
  have i1 : Lib.itoa en0.code = [50, 48, 48] := by show Lib.itoa 200 = _; unfold Lib.itoa; rw [if_neg (by decide)]; exact h200
  have i2 : Lib.itoa en0.bytes = [53] := by show Lib.itoa 5 = _; unfold Lib.itoa; rw [if_neg (by decide)]; exact d 5 (by decide)
  have i3 : Lib.itoa en0.took = [49] := by show Lib.itoa 1 = _; unfold Lib.itoa; rw [if_neg (by decide)]; exact d 1 (by decide)
  rw [i0, i1, i2, i3]
  rfl
theorem eqlErr (k : Int) (W : World) : (binOp .eql 27 (errV k) .nilIface).run Tryz.prog W = .ok (.bool (decide (k = 0))) W := by
  by_cases h : k = 0
  · subst h
    simp only [errV, if_true]
    go_simp
  · simp only [errV, if_neg h, decide_eq_false h]
    go_simp
theorem guardErr (x : Operand) (v : Value) (k : Int) (W : World) : (eqGuard .eql 27 x (.const v) (errV k) .nilIface).run Tryz.prog W = .ok () W := by
  by_cases h : k = 0
  · subst h
    simp only [errV, if_true]
    simp [eqGuard, go_sem]
  · simp only [errV, if_neg h]
    simp [eqGuard, go_sem]
theorem readV_eq (o : Option En) : readV o = .tuple #[enV (o.getD zeroEn), errV (if o.isSome then 0 else 2)] := by
  cases o <;> rfl
theorem rank_any (v : Value) (zs : List Int) (w : World) (h : Args.RowAt w v (zs.map (Value.int .i64))) :
    Calls Tryz.prog 14 #[v, .int .i64 100] w fun e w' => (∃ r, e = .returned (.tuple #[.int .i64 r, errV (rankE zs.length 100)]) ∧ (rankE zs.length 100 = 0 → ∀ z ∈ zs, z ≤ r)) ∧ Below w.heap.size w w' := by
  by_cases hz : rankE zs.length 100 = 0
  · refine (rank_ok v zs 100 w h hz).mono ?_
    rintro e w' ⟨rfl, hB⟩
    refine ⟨⟨_, by rw [hz]; rfl, fun _ z hm => rank_most zs (List.length_pos_of_mem hm) z hm⟩, hB⟩
  · refine (rank_bad v zs 100 w h hz).mono ?_
    rintro e w' ⟨rfl, hB⟩
    exact ⟨⟨0, by rw [show errV (rankE zs.length 100) = _ from if_neg hz], fun e => absurd e hz⟩, hB⟩
set_option maxRecDepth 100000 in
set_option maxHeartbeats 16000000 in
theorem walk (en : En) (s : ByteArray) (vl : Value) (l : List En) (a b c : Int) (vn : Value) (nums : List Int) (w : World) (hen : EnOk en) (hs : s.size + 1 ≤ 1048576) (hl : EntrysAt w vl l) (ha : I64 a) (hb : I64 b) (hc : I64 c) (hn : IntsAt w vn nums) (hv : Vars w) :
    Calls Tryz.prog 5 #[enV en, .string s, vl, .int .i64 a, .int .i64 b, .int .i64 c, vn] w fun e w' => e = .returned (.bool true) ∧ Below w.heap.size w w' := by
  obtain ⟨hl, -⟩ := hl
  obtain ⟨hn, -⟩ := hn
  have HL := Lib.hid hl
  have HNN := Lib.hid hn
  have HV := Lib.hid hv
  have HSZ : Hid (s.size + 1 ≤ 1048576) := hs
  obtain ⟨al, cl, rfl, -⟩ := hl
  obtain ⟨an, cn, rfl, hcap1, hcap2, -, hel⟩ := hn
  simp only [List.length_map] at hcap1 hel HNN ⊢
  obtain ⟨nl, hnl⟩ : ∃ n, l.length = n := ⟨_, rfl⟩
  obtain ⟨nn, hnn⟩ : ∃ n, nums.length = n := ⟨_, rfl⟩
  have HNL := Lib.hid hnl
  have HNX := Lib.hid hnn
  have HEL := Lib.hid hel
  rw [hnl] at HL ⊢
  rw [hnn] at HNN HEL ⊢
  have HP0 := Lib.hid (fun W hW => parse_any ⟨#[55, 32, 50, 48, 48, 32, 53, 32, 49, 32, 71, 69, 84, 32, 47]⟩ (by decide) W hW)
  rw [fact0] at HP0
  simp only [readV, enV, en0] at HP0
  clear hs hv hnl hnn hel hen ha hb hc hcap1 hcap2
  simp only [enV]
  go_enter Tryz.func5, Tryz.ntmps5
  go_wp2_with fail
  have hB0 : Below w.heap.size w (w.alloc (.cells #[.int .i64 en.time, .int .i64 en.code, .int .i64 en.bytes, .int .i64 en.took, .string en.method, .string en.path] 23)) := (Below.refl _ _).alloc (Nat.le_refl _) _
  have cc : ∀ j u, (#[.int .i64 en.time, .int .i64 en.code, .int .i64 en.bytes, .int .i64 en.took, .string en.method, .string en.path] : Array Value)[j]? = some u → (w.alloc (.cells #[.int .i64 en.time, .int .i64 en.code, .int .i64 en.bytes, .int .i64 en.took, .string en.method, .string en.path] 23)).cell? ⟨w.heap.size, j, none⟩ = some u := fun j u h => by simpa using h
  have c0 := cc 0 _ rfl
  have c1 := cc 1 _ rfl
  have c2 := cc 2 _ rfl
  have c3 := cc 3 _ rfl
  have c4 := cc 4 _ rfl
  have c5 := cc 5 _ rfl
  have hs0 : w.heap.size < (w.alloc (.cells #[.int .i64 en.time, .int .i64 en.code, .int .i64 en.bytes, .int .i64 en.took, .string en.method, .string en.path] 23)).heap.size := by simp
  have HB0 := Lib.hid hB0
  clear cc hB0
  generalize (w.alloc (.cells #[.int .i64 en.time, .int .i64 en.code, .int .i64 en.bytes, .int .i64 en.took, .string en.method, .string en.path] 23)) = w0 at *
  refine (HP0.out w0 (HV.out.old HB0.out)).mono ?_
  rintro e w1 ⟨rfl, hB1⟩
  have d0 := (hB1.cell (p := ⟨w.heap.size, 0, none⟩) hs0).trans c0
  have d1 := (hB1.cell (p := ⟨w.heap.size, 1, none⟩) hs0).trans c1
  have d2 := (hB1.cell (p := ⟨w.heap.size, 2, none⟩) hs0).trans c2
  have d3 := (hB1.cell (p := ⟨w.heap.size, 3, none⟩) hs0).trans c3
  have d4 := (hB1.cell (p := ⟨w.heap.size, 4, none⟩) hs0).trans c4
  have d5 := (hB1.cell (p := ⟨w.heap.size, 5, none⟩) hs0).trans c5
  have hs1 := Nat.lt_of_lt_of_le hs0 hB1.size
  have HB1 := Lib.hid (HB0.out.trans (hB1.mono HB0.out.size))
  clear hB1 HB0 HP0 hs0 c0 c1 c2 c3 c4 c5
  have HPR := Lib.hid (fun W hW => print_any en W hW)
  simp only [enV] at HPR
  have hq1 := eqlErr (checkE en)
  have hq2 := fun x y => guardErr x y (checkE en)
  obtain ⟨ve, hve⟩ : ∃ v, errV (checkE en) = v := ⟨_, rfl⟩
  obtain ⟨bz, hbz⟩ : ∃ b, decide (checkE en = 0) = b := ⟨_, rfl⟩
  have HVE := Lib.hid (And.intro hve hbz)
  rw [hve, hbz] at hq1
  rw [hve] at HPR hq2
  clear hve hbz
  go_wp2_with fail
  have hB2 : Below w1.heap.size w1 (w1.alloc (.cells #[.int .i64 7, .int .i64 200, .int .i64 5, .int .i64 1, .string ⟨#[71, 69, 84]⟩, .string ⟨#[47]⟩] 23)) := (Below.refl _ _).alloc (Nat.le_refl _) _
  have e0 := (hB2.cell (p := ⟨w.heap.size, 0, none⟩) hs1).trans d0
  have e1 := (hB2.cell (p := ⟨w.heap.size, 1, none⟩) hs1).trans d1
  have e2 := (hB2.cell (p := ⟨w.heap.size, 2, none⟩) hs1).trans d2
  have e3 := (hB2.cell (p := ⟨w.heap.size, 3, none⟩) hs1).trans d3
  have e4 := (hB2.cell (p := ⟨w.heap.size, 4, none⟩) hs1).trans d4
  have e5 := (hB2.cell (p := ⟨w.heap.size, 5, none⟩) hs1).trans d5
  have hs2 := Nat.lt_of_lt_of_le hs1 hB2.size
  have HB2 := Lib.hid (HB1.out.trans (hB2.mono HB1.out.size))
  clear hB2 HB1 hs1 d0 d1 d2 d3 d4 d5
  generalize (w1.alloc (.cells #[.int .i64 7, .int .i64 200, .int .i64 5, .int .i64 1, .string ⟨#[71, 69, 84]⟩, .string ⟨#[47]⟩] 23)) = w2 at *
  refine (HPR.out w2 (HV.out.old HB2.out).p).mono ?_
  rintro e w3 ⟨rfl, hB3⟩
  have f0 := (hB3.cell (p := ⟨w.heap.size, 0, none⟩) hs2).trans e0
  have f1 := (hB3.cell (p := ⟨w.heap.size, 1, none⟩) hs2).trans e1
  have f2 := (hB3.cell (p := ⟨w.heap.size, 2, none⟩) hs2).trans e2
  have f3 := (hB3.cell (p := ⟨w.heap.size, 3, none⟩) hs2).trans e3
  have f4 := (hB3.cell (p := ⟨w.heap.size, 4, none⟩) hs2).trans e4
  have f5 := (hB3.cell (p := ⟨w.heap.size, 5, none⟩) hs2).trans e5
  have hs3 := Nat.lt_of_lt_of_le hs2 hB3.size
  have HB3 := Lib.hid (HB2.out.trans (hB3.mono HB2.out.size))
  clear hB3 HB2 HPR hs2 e0 e1 e2 e3 e4 e5
  go_upto_if 60 with fail
  go_cut [19, 20] from 60 to 72 (fun _ _ wx => Hid (Below w.heap.size w wx))
  case first => as_aux_lemma =>
    cases bz with
    | true =>
      have hz : checkE en = 0 := of_decide_eq_true HVE.out.2
      have htx : textE en = ⟨(writeE en).toArray⟩ := if_pos hz
      have HPA := Lib.hid (parse_any (textE en) (by have := write_len hz; rw [htx, LineC.size_list]; simp; omega) w3 (HV.out.old HB3.out))
      rw [parse_write en hz (textE en) (by rw [htx])] at HPA
      simp only [readV, enV] at HPA
      have hne := neqE en
      clear hz htx
      go_wp2_with fail
      refine HPA.out.mono ?_
      rintro e w4 ⟨rfl, hB4⟩
      have g0 := (hB4.cell (p := ⟨w.heap.size, 0, none⟩) hs3).trans f0
      have g1 := (hB4.cell (p := ⟨w.heap.size, 1, none⟩) hs3).trans f1
      have g2 := (hB4.cell (p := ⟨w.heap.size, 2, none⟩) hs3).trans f2
      have g3 := (hB4.cell (p := ⟨w.heap.size, 3, none⟩) hs3).trans f3
      have g4 := (hB4.cell (p := ⟨w.heap.size, 4, none⟩) hs3).trans f4
      have g5 := (hB4.cell (p := ⟨w.heap.size, 5, none⟩) hs3).trans f5
      have hs4 := Nat.lt_of_lt_of_le hs3 hB4.size
      have HB4 := Lib.hid (HB3.out.trans (hB4.mono HB3.out.size))
      clear hB4 f0 f1 f2 f3 f4 f5
      have HB5 : Hid (Below w.heap.size w (w4.alloc (.cells #[.int .i64 en.time, .int .i64 en.code, .int .i64 en.bytes, .int .i64 en.took, .string en.method, .string en.path] 23))) := HB4.out.alloc HB4.out.size _
      go_wp2_with fail
      go_meet
      exact HB5.out
    | false =>
      go_wp2_with fail
      go_meet
      exact HB3.out
  have HBC := hcut
  clear hcut HB3 hq1 hq2 HVE hs3 f0 f1 f2 f3 f4 f5
  have hPS := parse_any s (by have := HSZ.out; omega) wc (HV.out.old HBC.out)
  rw [readV_eq] at hPS
  have HPS := Lib.hid hPS
  obtain ⟨en2, hen2⟩ : ∃ x, (parseS s).getD zeroEn = x := ⟨_, rfl⟩
  obtain ⟨k2, hk2⟩ : ∃ x : Int, (if (parseS s).isSome then 0 else 2) = x := ⟨_, rfl⟩
  rw [hen2, hk2] at HPS
  have hq1 := eqlErr k2
  have hq2 := fun x v => guardErr x v k2
  obtain ⟨ve2, hve2⟩ : ∃ v, errV k2 = v := ⟨_, rfl⟩
  obtain ⟨b2, hb2⟩ : ∃ b, decide (k2 = 0) = b := ⟨_, rfl⟩
  have HVE := Lib.hid (And.intro hen2 (And.intro hk2 (And.intro hve2 hb2)))
  rw [hve2, hb2] at hq1
  rw [hve2] at HPS hq2
  simp only [enV] at HPS
  clear hPS hen2 hk2 hve2 hb2
  go_wp2_with fail
  refine HPS.out.mono ?_
  rintro e w5 ⟨rfl, hB5⟩
  have HB5 := Lib.hid (HBC.out.trans (hB5.mono HBC.out.size))
  clear hB5 HPS
  go_upto_if 79 with fail
  have HB6 : Hid (Below w.heap.size w (w5.alloc (.cells #[.int .i64 en2.time, .int .i64 en2.code, .int .i64 en2.bytes, .int .i64 en2.took, .string en2.method, .string en2.path] 23))) := HB5.out.alloc HB5.out.size _
  have h6 : ∀ j u, (#[.int .i64 en2.time, .int .i64 en2.code, .int .i64 en2.bytes, .int .i64 en2.took, .string en2.method, .string en2.path] : Array Value)[j]? = some u → (w5.alloc (.cells #[.int .i64 en2.time, .int .i64 en2.code, .int .i64 en2.bytes, .int .i64 en2.took, .string en2.method, .string en2.path] 23)).cell? ⟨w5.heap.size, j, none⟩ = some u := fun j u h => by simpa using h
  have c0 := h6 0 _ rfl
  have c1 := h6 1 _ rfl
  have c2 := h6 2 _ rfl
  have c3 := h6 3 _ rfl
  have c4 := h6 4 _ rfl
  have c5 := h6 5 _ rfl
  clear h6
  generalize w5.alloc (.cells #[.int .i64 en2.time, .int .i64 en2.code, .int .i64 en2.bytes, .int .i64 en2.took, .string en2.method, .string en2.path] 23) = w6 at *
  go_cut [22, 23] from 79 to 91 (fun _ _ wx => Hid (Below w.heap.size w wx))
  case first => as_aux_lemma =>
    cases b2 with
    | true =>
      have hps : parseS s = some en2 := by
        obtain ⟨h1, h2, -, h4⟩ := HVE.out
        have h0 := of_decide_eq_true h4
        cases e : parseS s with
        | none => rw [e] at h2; simp at h2; omega
        | some x => rw [e] at h1; simp at h1; rw [h1]
      obtain ⟨hck, hw⟩ := parse_some hps
      have htx : textE en2 = s := by
        unfold textE
        rw [if_pos hck]
        exact ba_eq (by simp [hw])
      have HPR := Lib.hid (print_any en2 w6 (HV.out.old HB6.out).p)
      rw [htx, hck, show errV 0 = .nilIface from rfl] at HPR
      simp only [enV] at HPR
      clear hps hck hw htx
      go_wp2_with fail
      refine HPR.out.mono ?_
      rintro e w7 ⟨rfl, hB7⟩
      have HB7 := Lib.hid (HB6.out.trans (hB7.mono HB6.out.size))
      clear hB7
      go_wp2_with fail
      go_meet
      exact HB7.out
    | false =>
      go_wp2_with fail
      go_meet
      exact HB6.out
  have HBD := hcut
  clear hcut HB5 HB6 HBC hq1 hq2 HVE c0 c1 c2 c3 c4 c5
  have hRK := rank_any _ nums wc (HNN.out.below HBD.out)
  rw [HNX.out] at hRK
  have HRK := Lib.hid hRK
  obtain ⟨k3, hk3⟩ : ∃ x : Int, rankE nn 100 = x := ⟨_, rfl⟩
  rw [hk3] at HRK
  have hq1 := eqlErr k3
  have hq2 := fun x v => guardErr x v k3
  obtain ⟨ve3, hve3⟩ : ∃ v, errV k3 = v := ⟨_, rfl⟩
  obtain ⟨b3, hb3⟩ : ∃ b, decide (k3 = 0) = b := ⟨_, rfl⟩
  have HB3 := Lib.hid (And.intro hk3 hb3)
  rw [hve3, hb3] at hq1
  rw [hve3] at HRK hq2
  clear hRK hk3 hve3 hb3
  go_wp2_with fail
  refine HRK.out.mono ?_
  rintro e w8 ⟨⟨r, rfl, hr⟩, hB8⟩
  have HR := Lib.hid hr
  have HB8 := Lib.hid (HBD.out.trans (hB8.mono HBD.out.size))
  clear hr hB8 HRK
  go_wp2_with fail
  go_loopw [25] (fun i wr => ∃ k : Nat, i = .int .i64 (k : Int) ∧ k ≤ nn ∧ wr = w8) (fun i _ => nn - (intOf i).toNat)
  case atStart => exact ⟨0, rfl, by omega, rfl⟩
  case round =>
    obtain ⟨k, rfl, hk, rfl⟩ := hrel
    by_cases hlt : k < nn
    · have hlt2 : (k : Int) < (nn : Int) := by omega
      cases b3 with
      | false =>
        by_cases t1 : b < a
        · have g1 : decide (b < a) = true := decide_eq_true t1
          go_wp2_with fail
          go_ret
          exact ⟨rfl, HB8.out⟩
        · by_cases t2 : c < b
          · have g1 : decide (b < a) = false := decide_eq_false t1
            have g2 : decide (c < b) = true := decide_eq_true t2
            go_wp2_with fail
            go_ret
            exact ⟨rfl, HB8.out⟩
          · have g1 : decide (b < a) = false := decide_eq_false t1
            have g2 : decide (c < b) = false := decide_eq_false t2
            have HSA : Hid (∀ f t W, Below w.heap.size w W → Calls Tryz.prog 13 #[.slice al nl cl, .int .i64 f, .int .i64 t] W fun e w' => e = .returned (sumV l f t) ∧ Below W.heap.size W w') := fun f t W hW => sum_any _ l f t W (HL.out.old hW)
            by_cases hz : allE l = 0
            · have hcz : l.length ≤ 1000 ∧ ∀ e ∈ l, checkE e = 0 := by
                unfold allE at hz
                by_cases h1 : 1000 < l.length
                · rw [if_pos h1] at hz; exact absurd hz (by decide)
                · rw [if_neg h1] at hz
                  exact ⟨by omega, fun e he => firstE_zero _ hz _ (List.mem_map.2 ⟨e, he, rfl⟩)⟩
              obtain ⟨p1, p2, p3⟩ := spans a b c (by omega) (by omega) l
              obtain ⟨⟨b11, b12⟩, ⟨b21, b22⟩, ⟨b31, b32⟩⟩ := sums_bd a c l hcz.2
              have HS1 := Lib.hid (HSA.out a b)
              have HS2 := Lib.hid (HSA.out b c)
              have HS3 := Lib.hid (HSA.out a c)
              have hl := hcz.1
              rw [show sumV l a b = _ from if_pos hz] at HS1
              rw [show sumV l b c = _ from if_pos hz] at HS2
              rw [show sumV l a c = _ from if_pos hz] at HS3
              clear hcz hz HSA
              generalize cntS l a b = x1 at *
              generalize cntS l b c = x2 at *
              generalize cntS l a c = x3 at *
              generalize bytS l a b = x4 at *
              generalize bytS l b c = x5 at *
              generalize bytS l a c = x6 at *
              generalize badS l a b = x7 at *
              generalize badS l b c = x8 at *
              generalize badS l a c = x9 at *
              have w1' : IntKind.i64.wrap (x1 + x2) = x3 := by rw [p1]; exact IntWalk.i64_in _ (by omega)
              have w2' : IntKind.i64.wrap (x4 + x5) = x6 := by rw [p2]; exact IntWalk.i64_in _ (by omega)
              have w3' : IntKind.i64.wrap (x7 + x8) = x9 := by rw [p3]; exact IntWalk.i64_in _ (by omega)
              clear p1 p2 p3 b11 b12 b21 b22 b31 b32 hl
              go_wp2_with (first
                  | (go_at_call 13; (with_reducible refine (HS1.out wr HB8.out).mono ?_); rintro e y1 ⟨rfl, hy1⟩; have HY1 := Lib.hid (HB8.out.trans (hy1.mono HB8.out.size)); clear hy1)
                  | (go_at_call 13; (with_reducible refine (HS2.out y1 HY1.out).mono ?_); rintro e y2 ⟨rfl, hy2⟩; have HY2 := Lib.hid (HY1.out.trans (hy2.mono HY1.out.size)); clear hy2)
                  | (go_at_call 13; (with_reducible refine (HS3.out y2 HY2.out).mono ?_); rintro e y3 ⟨rfl, hy3⟩; have HY3 := Lib.hid (HY2.out.trans (hy3.mono HY2.out.size)); clear hy3)
                  | fail)
              go_ret
              exact ⟨rfl, HY3.out⟩
            · have HS1 := Lib.hid (HSA.out a b)
              have HS2 := Lib.hid (HSA.out b c)
              have HS3 := Lib.hid (HSA.out a c)
              rw [show sumV l a b = _ from if_neg hz, show errV (allE l) = .iface 52 (.int .i64 (allE l)) from if_neg hz] at HS1
              rw [show sumV l b c = _ from if_neg hz, show errV (allE l) = .iface 52 (.int .i64 (allE l)) from if_neg hz] at HS2
              rw [show sumV l a c = _ from if_neg hz, show errV (allE l) = .iface 52 (.int .i64 (allE l)) from if_neg hz] at HS3
              clear hz HSA
              generalize allE l = ck at *
              go_wp2_with (first
                  | (go_at_call 13; (with_reducible refine (HS1.out wr HB8.out).mono ?_); rintro e y1 ⟨rfl, hy1⟩; have HY1 := Lib.hid (HB8.out.trans (hy1.mono HB8.out.size)); clear hy1)
                  | (go_at_call 13; (with_reducible refine (HS2.out y1 HY1.out).mono ?_); rintro e y2 ⟨rfl, hy2⟩; have HY2 := Lib.hid (HY1.out.trans (hy2.mono HY1.out.size)); clear hy2)
                  | (go_at_call 13; (with_reducible refine (HS3.out y2 HY2.out).mono ?_); rintro e y3 ⟨rfl, hy3⟩; have HY3 := Lib.hid (HY2.out.trans (hy3.mono HY2.out.size)); clear hy3)
                  | fail)
              go_ret
              exact ⟨rfl, HY3.out⟩
      | true =>
        obtain ⟨bb, off, hae, hbb, hcl⟩ := HEL.out k hlt
        subst hae
        obtain ⟨x, hx⟩ : ∃ x, nums.getD k 0 = x := ⟨_, rfl⟩
        have hkn : k < nums.length := by rw [HNX.out]; exact hlt
        have hxm : x ∈ nums := by rw [← hx, List.getD_eq_getElem?_getD, List.getElem?_eq_getElem hkn]; exact List.getElem_mem _
        have q := (HB8.out.cell (p := ⟨bb, off + k, none⟩) hbb).trans hcl
        rw [List.getElem?_map, List.getElem?_eq_getElem hkn] at q
        have hx2 : nums[k] = x := by rw [← hx, List.getD_eq_getElem?_getD, List.getElem?_eq_getElem hkn]; rfl
        rw [hx2] at q
        replace q : wr.cell? ⟨bb, off + k, none⟩ = some (.int .i64 x) := q
        have hle := HR.out (of_decide_eq_true HB3.out.2) x hxm
        have hgt : decide (r < x) = false := decide_eq_false (by omega)
        have hk0 : (0 : Int) ≤ (k : Int) := by omega
        have hnb : nn ≤ 1000 := by
          have h1 := HB3.out.1
          rw [of_decide_eq_true HB3.out.2] at h1
          unfold rankE at h1
          split at h1
          · omega
          · split at h1
            · omega
            · omega
        clear hx hkn hxm hcl hx2 hle
        go_wp2_with fail
        go_roundw
        case rel => exact ⟨k + 1, by simp, by omega, by first | rfl | trivial⟩
        case measure => simp [intOf]; omega
    · obtain rfl : k = nn := by omega
      by_cases t1 : b < a
      · have g1 : decide (b < a) = true := decide_eq_true t1
        go_wp2_with fail
        go_ret
        exact ⟨rfl, HB8.out⟩
      · by_cases t2 : c < b
        · have g1 : decide (b < a) = false := decide_eq_false t1
          have g2 : decide (c < b) = true := decide_eq_true t2
          go_wp2_with fail
          go_ret
          exact ⟨rfl, HB8.out⟩
        · have g1 : decide (b < a) = false := decide_eq_false t1
          have g2 : decide (c < b) = false := decide_eq_false t2
          have HSA : Hid (∀ f t W, Below w.heap.size w W → Calls Tryz.prog 13 #[.slice al nl cl, .int .i64 f, .int .i64 t] W fun e w' => e = .returned (sumV l f t) ∧ Below W.heap.size W w') := fun f t W hW => sum_any _ l f t W (HL.out.old hW)
          by_cases hz : allE l = 0
          · have hcz : l.length ≤ 1000 ∧ ∀ e ∈ l, checkE e = 0 := by
              unfold allE at hz
              by_cases h1 : 1000 < l.length
              · rw [if_pos h1] at hz; exact absurd hz (by decide)
              · rw [if_neg h1] at hz
                exact ⟨by omega, fun e he => firstE_zero _ hz _ (List.mem_map.2 ⟨e, he, rfl⟩)⟩
            obtain ⟨p1, p2, p3⟩ := spans a b c (by omega) (by omega) l
            obtain ⟨⟨b11, b12⟩, ⟨b21, b22⟩, ⟨b31, b32⟩⟩ := sums_bd a c l hcz.2
            have HS1 := Lib.hid (HSA.out a b)
            have HS2 := Lib.hid (HSA.out b c)
            have HS3 := Lib.hid (HSA.out a c)
            have hl := hcz.1
            rw [show sumV l a b = _ from if_pos hz] at HS1
            rw [show sumV l b c = _ from if_pos hz] at HS2
            rw [show sumV l a c = _ from if_pos hz] at HS3
            clear hcz hz HSA
            generalize cntS l a b = x1 at *
            generalize cntS l b c = x2 at *
            generalize cntS l a c = x3 at *
            generalize bytS l a b = x4 at *
            generalize bytS l b c = x5 at *
            generalize bytS l a c = x6 at *
            generalize badS l a b = x7 at *
            generalize badS l b c = x8 at *
            generalize badS l a c = x9 at *
            have w1' : IntKind.i64.wrap (x1 + x2) = x3 := by rw [p1]; exact IntWalk.i64_in _ (by omega)
            have w2' : IntKind.i64.wrap (x4 + x5) = x6 := by rw [p2]; exact IntWalk.i64_in _ (by omega)
            have w3' : IntKind.i64.wrap (x7 + x8) = x9 := by rw [p3]; exact IntWalk.i64_in _ (by omega)
            clear p1 p2 p3 b11 b12 b21 b22 b31 b32 hl
            go_wp2_with (first
                | (go_at_call 13; (with_reducible refine (HS1.out wr HB8.out).mono ?_); rintro e y1 ⟨rfl, hy1⟩; have HY1 := Lib.hid (HB8.out.trans (hy1.mono HB8.out.size)); clear hy1)
                | (go_at_call 13; (with_reducible refine (HS2.out y1 HY1.out).mono ?_); rintro e y2 ⟨rfl, hy2⟩; have HY2 := Lib.hid (HY1.out.trans (hy2.mono HY1.out.size)); clear hy2)
                | (go_at_call 13; (with_reducible refine (HS3.out y2 HY2.out).mono ?_); rintro e y3 ⟨rfl, hy3⟩; have HY3 := Lib.hid (HY2.out.trans (hy3.mono HY2.out.size)); clear hy3)
                | fail)
            go_ret
            exact ⟨rfl, HY3.out⟩
          · have HS1 := Lib.hid (HSA.out a b)
            have HS2 := Lib.hid (HSA.out b c)
            have HS3 := Lib.hid (HSA.out a c)
            rw [show sumV l a b = _ from if_neg hz, show errV (allE l) = .iface 52 (.int .i64 (allE l)) from if_neg hz] at HS1
            rw [show sumV l b c = _ from if_neg hz, show errV (allE l) = .iface 52 (.int .i64 (allE l)) from if_neg hz] at HS2
            rw [show sumV l a c = _ from if_neg hz, show errV (allE l) = .iface 52 (.int .i64 (allE l)) from if_neg hz] at HS3
            clear hz HSA
            generalize allE l = ck at *
            go_wp2_with (first
                | (go_at_call 13; (with_reducible refine (HS1.out wr HB8.out).mono ?_); rintro e y1 ⟨rfl, hy1⟩; have HY1 := Lib.hid (HB8.out.trans (hy1.mono HB8.out.size)); clear hy1)
                | (go_at_call 13; (with_reducible refine (HS2.out y1 HY1.out).mono ?_); rintro e y2 ⟨rfl, hy2⟩; have HY2 := Lib.hid (HY1.out.trans (hy2.mono HY1.out.size)); clear hy2)
                | (go_at_call 13; (with_reducible refine (HS3.out y2 HY2.out).mono ?_); rintro e y3 ⟨rfl, hy3⟩; have HY3 := Lib.hid (HY2.out.trans (hy3.mono HY2.out.size)); clear hy3)
                | fail)
            go_ret
            exact ⟨rfl, HY3.out⟩
end Go.Proofs.YtcpkikillmmjcaaGreatDoor.WalkLogBack
