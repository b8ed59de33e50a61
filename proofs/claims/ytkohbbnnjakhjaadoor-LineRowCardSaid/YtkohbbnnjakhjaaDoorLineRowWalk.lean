/-
  The walk of the law LineRow: for all requests it returns true and writes nothing that was there.
  Conditions: strconv's powers of ten start as the program's text lays them.
-/
import Derived.Test.YtkohbbnnjakhjaaDoorArgs
import Derived.Test.YtkohbbnnjakhjaaDoorReqsArg
import Derived.Test.YtkohbbnnjakhjaaDoorReadFwd
import Derived.Test.YtkohbbnnjakhjaaDoorReadAsk
import Derived.Test.YtkohbbnnjakhjaaDoorAskLines
import Derived.Test.YtkohbbnnjakhjaaDoorSame
namespace Go.Proofs.YtkohbbnnjakhjaaDoor.WalkLineRow
open Go.RowKit RowsK LineC LineM BA ReadC
set_option linter.unusedVariables false
set_option linter.unusedSimpArgs false

/-- The requests' lines, one behind the other. -/
def cat (l : List Rq) : List Int := l.flatMap askBytes
theorem cat_snoc (l : List Rq) (i : Nat) (h : i < l.length) : cat (l.take (i + 1)) = cat (l.take i) ++ askBytes l[i] := by
  unfold cat
  rw [List.take_succ_eq_append_getElem h, List.flatMap_append, List.flatMap_cons, List.flatMap_nil, List.append_nil]
theorem cat_cons (l : List Rq) (i : Nat) (h : i < l.length) : cat (l.drop i) = askBytes l[i] ++ cat (l.drop (i + 1)) := by
  rw [List.drop_eq_getElem_cons h]; rfl
theorem ask_pos (r : Rq) : 1 ≤ (askBytes r).length := by unfold askBytes askHead; simp only [List.length_append, ReadS.ints_len, List.length_cons, List.length_nil]; omega
theorem ask_bd {r : Rq} (h : ∀ z ∈ r.body, 0 ≤ z ∧ z ≤ 255) : ∀ z ∈ askBytes r, 0 ≤ z ∧ z ≤ 255 := fun z hz => by
  unfold askBytes at hz
  rcases List.mem_append.1 hz with h1 | h1
  · exact intsOf_bd _ z h1
  · exact h z h1
theorem cat_bd {l : List Rq} (h : ∀ r ∈ l, ∀ z ∈ r.body, 0 ≤ z ∧ z ≤ 255) : ∀ z ∈ cat l, 0 ≤ z ∧ z ≤ 255 := fun z hz => by
  obtain ⟨r, hr, h1⟩ := List.mem_flatMap.1 hz
  exact ask_bd (h r hr) z h1
/-- The first request that a law tries. -/
def rq0 : Rq := ⟨⟨#[71, 69, 84]⟩, ⟨#[47]⟩, ⟨#[104]⟩, [], []⟩
theorem rq0_ok : askE rq0 = 0 := by
  unfold askE
  rw [emp_list]
  decide +kernel
theorem rq0_bytes : strOf (askBytes rq0) = ⟨#[71, 69, 84, 32, 47, 32, 69, 68, 71, 69, 47, 49, 13, 10, 104, 111, 115, 116, 58, 32, 104, 13, 10, 13, 10]⟩ := by decide +kernel
set_option maxRecDepth 100000 in
theorem slice_from (a : Option Addr) (L cap q : Nat) (h : q ≤ L) (W : World) :
    (Instr.slice 22 (.slice a L cap) (some (.int .i64 (q : Int))) none none).run Tryd.prog W = .ok (.slice (cutA a q cap) (L - q) (cap - q)) W := by
  have hu : Tryd.prog.underlying 22 = some (.slice (Tryd.prog.elem 22)) := Tryd.underlying22
  have hs : (sizeOf (Tryd.prog.elem 22)).run Tryd.prog W = .ok 1 W := by kernel_rfl
  rw [run_slice_l (P := Tryd.prog) W 22 a L cap hu .i64 (q : Int) (by omega) (by omega), hs]
  simp only [Result.andThen, sliced]
  have e1 : ((q : Int)).toNat = q := by omega
  rw [e1, Nat.mul_one]
  rfl
theorem cat_len (l : List Rq) (j : Nat) : (cat (l.drop j)).length ≤ (cat l).length := by
  have h : cat l = cat (l.take j) ++ cat (l.drop j) := by unfold cat; rw [← List.flatMap_append, List.take_append_drop]
  rw [h, List.length_append]; omega
theorem ask_told {r : Rq} {rest : List Int} (h : askE r = 0) : ReadS.faultS (askBytes r ++ rest) (ReadS.askC (askBytes r ++ rest)).2 = 0 ∧ ReadS.askC (askBytes r ++ rest) = (r, ((askBytes r).length, 0)) := by
  have h1 := ReadS.askC_told (r := r) (rest := rest) h
  rw [h1]
  exact ⟨if_neg (by simp), rfl⟩
theorem elem_at {w : World} {a : Option Addr} {n cap : Nat} {l : List Rq} (h : Args.RequestsAt w (.slice a n cap) l) (i : Nat) (hi : i < l.length) : ∃ b off vf vb, a = some ⟨b, off, none⟩ ∧ b < w.heap.size ∧ w.cell? ⟨b, off + i * 5, none⟩ = some (.string l[i].method) ∧ w.cell? ⟨b, off + i * 5 + 1, none⟩ = some (.string l[i].path) ∧
    w.cell? ⟨b, off + i * 5 + 2, none⟩ = some (.string l[i].host) ∧ w.cell? ⟨b, off + i * 5 + 3, none⟩ = some vf ∧ w.cell? ⟨b, off + i * 5 + 4, none⟩ = some vb ∧ Args.FieldsAt w vf l[i].fields ∧ Args.BytesAt w vb l[i].body := by
  obtain ⟨a', c', e, _, _, _, h5⟩ := h
  simp only [Value.slice.injEq] at e
  obtain ⟨rfl, _, _⟩ := e
  exact h5 i hi
set_option maxRecDepth 100000 in
set_option maxHeartbeats 16000000 in
theorem walk (v : Value) (l : List Rq) (w : World) (hl : Args.RequestsAt w v l) (hp : Pow10 w) :
    Calls Tryd.prog 4 #[v] w fun e w' => e = .returned (.bool true) ∧ Below w.heap.size w w' := by
  obtain ⟨a, cap, rfl, hcap, hcap2, hnil, _⟩ := id hl
  have HL := Lib.hid hl
  have HP := Lib.hid hp
  have HA0 := Lib.hid (ask_ok rq0 (.slice none 0 0) (.slice none 0 0) w ⟨none, 0, rfl, by simp [rq0], by simp, by simp, fun i hi => absurd hi (by simp [rq0])⟩ (bytes_nil w) rq0_ok hp)
  have HC0 : Hid (∀ W v, BytesAt W v (askBytes rq0) → (convert 22 9 v).run Tryd.prog W = .ok (.string ⟨#[71, 69, 84, 32, 47, 32, 69, 68, 71, 69, 47, 49, 13, 10, 104, 111, 115, 116, 58, 32, 104, 13, 10, 13, 10]⟩) W) := fun W v h => by
    rw [← rq0_bytes]; exact conv_back h (ask_bd (by simp [rq0]))
  obtain ⟨L, hL⟩ : ∃ L, l.length = L := ⟨_, rfl⟩
  have HLL := Lib.hid hL
  rw [hL] at hcap ⊢
  clear hl hp hL hnil
  have HA1 : Hid (Calls Tryd.prog 12 #[.agg #[.string ⟨#[71, 69, 84]⟩, .string ⟨#[47]⟩, .string ⟨#[104]⟩, .slice none 0 0, .slice none 0 0]] w fun e w' => ∃ v, e = .returned (.tuple #[v, .nilIface]) ∧ BytesAt w' v (askBytes rq0) ∧ Below w.heap.size w w') := HA0.out
  clear HA0
  go_enter Tryd.func4, Tryd.ntmps4
  go_wp2_with (first
    | (go_at_call 12; (with_reducible refine HA1.out.mono ?_); rintro e w1 ⟨vx, rfl, hx, hB⟩; obtain ⟨x1, x2, rfl, _⟩ := hx.open; have cv := HC0.out _ _ hx; have HB1 := Lib.hid hB; clear hx hB))
  have tok1 : True := trivial
  go_loopw [5, 6] (fun bv iv wr => ∃ (i n : Nat) (ab : Option Addr) (cb : Nat), iv = .int .i64 i ∧ bv = .slice ab n cb ∧ i ≤ L ∧ i ≤ 10 ∧ n ≤ 15000 * i ∧ Below w.heap.size w wr ∧ Hid (BytesL.Own wr w.heap.size (.slice ab n cb) (cat (l.take i)) ∧ (cat (l.take i)).length = n ∧ ∀ r ∈ l.take i, askE r = 0 ∧ ∀ z ∈ r.body, 0 ≤ z ∧ z ≤ 255)) (fun _ iv _ => 10 - (intOf iv).toNat)
  case atStart => exact ⟨0, 0, none, 0, rfl, rfl, by omega, by omega, by omega, HB1.out, BytesL.Own.nil _ _, by simp [cat], by simp⟩
  case round =>
    obtain ⟨i, n, ab, cb, rfl, rfl, hiL, hi10, hn, hB, HK⟩ := hrel
    obtain ⟨wo, rfl⟩ : ∃ wo : World, wo = wr := ⟨_, rfl⟩
    have HB := Lib.hid hB
    by_cases hin : i < L ∧ i < 10
    · obtain ⟨hi1, hi2⟩ := hin
      obtain ⟨b, off, vf, vb, rfl, hb, c0, c1, c2, c3, c4, hf, hy⟩ := elem_at HL.out i (by rw [HLL.out]; exact hi1)
      have HSN := Lib.hid (cat_snoc l i (by rw [HLL.out]; exact hi1))
      have HMEM : Hid (∀ r ∈ l.take (i + 1), r = l[i]'(by rw [HLL.out]; exact hi1) ∨ r ∈ l.take i) := fun r hr => by
        rw [List.take_succ_eq_append_getElem (by rw [HLL.out]; exact hi1)] at hr
        rcases List.mem_append.1 hr with h | h
        · exact .inr h
        · exact .inl (by simpa using h)
      generalize l[i]'(by rw [HLL.out]; exact hi1) = r at *
      replace c0 := (hB.cell (p := ⟨b, off + i * 5, none⟩) hb).trans c0
      replace c1 := (hB.cell (p := ⟨b, off + i * 5 + 1, none⟩) hb).trans c1
      replace c2 := (hB.cell (p := ⟨b, off + i * 5 + 2, none⟩) hb).trans c2
      replace c3 := (hB.cell (p := ⟨b, off + i * 5 + 3, none⟩) hb).trans c3
      replace c4 := (hB.cell (p := ⟨b, off + i * 5 + 4, none⟩) hb).trans c4
      have hi0 : (0 : Int) ≤ (i : Int) := by omega
      have hi3 : (i : Int) < (L : Int) := by omega
      have hi4 : (i : Int) < 10 := by omega
      have d1 : decide ((i : Int) < (L : Int)) = true := decide_eq_true (by omega)
      have d2 : decide (i < L) = true := decide_eq_true (by omega)
      have d3 : decide ((i : Int) < 10) = true := decide_eq_true (by omega)
      have d4 : decide (i < 10) = true := decide_eq_true (by omega)
      have HBD := Lib.hid hy.2
      obtain ⟨y1, y2, y3, rfl⟩ : ∃ x n c, vf = .slice x n c := by obtain ⟨x, c, h, _⟩ := hf.1; exact ⟨_, _, _, h⟩
      obtain ⟨u1, u2, u3, rfl⟩ : ∃ x n c, vb = .slice x n c := by obtain ⟨x, c, h, _⟩ := hy.1.open; exact ⟨_, _, _, h⟩
      by_cases ha : askE r = 0
      · have HA := Lib.hid (ask_ok r (.slice y1 y2 y3) (.slice u1 u2 u3) wo (hf.1.old hB) (hy.1.below hB) ha (HP.out.old hB))
        have HAE := Lib.hid ha
        obtain ⟨m, hm⟩ : ∃ m, (askBytes r).length = m := ⟨_, rfl⟩
        have HM := Lib.hid hm
        unfold rqV at HA
        by_cases hbig : 15000 < m
        · have hb1 : (15000 : Int) < (m : Int) := by omega
          clear hf hy ha hm hB hbig
          go_wp2_with (first
            | (go_at_call 12; (with_reducible refine HA.out.mono ?_); rintro e w2 ⟨vx, rfl, hx, hB2⟩; obtain ⟨x1, x2, rfl, _⟩ := hx.open; rw [HM.out]; have HB2 := Lib.hid hB2; clear hx hB2))
          go_ret
          exact ⟨rfl, HB.out.trans (HB2.out.mono HB.out.size)⟩
        · have hb1 : (m : Int) ≤ 15000 := by omega
          clear hf hy ha hm hB
          go_wp2_with (first
            | (go_at_call 12; (with_reducible refine HA.out.mono ?_); rintro e w2 ⟨vx, rfl, hx, hB2⟩; obtain ⟨x1, x2, rfl, _⟩ := hx.open; rw [HM.out] at hx ⊢; have HX := Lib.hid hx; have HB2 := Lib.hid (HB.out.trans (hB2.mono HB.out.size)); have HO2 := Lib.hid (BytesL.Own.below HK.out.1 hB2); clear hx hB2)
            | (at_builtin; refine SlicesB.wpList_append_bytes rfl _ _ rfl w.heap.size _ _ rfl HO2.out _ _ rfl HX.out (by rw [HK.out.2.1, HM.out]; omega) HB2.out.size ?_; intro v3 w3 hown3 hB3 hg3 hat3; clear hg3 hat3; obtain ⟨a3, c3', rfl, _⟩ := hown3.slice; have HO3 := Lib.hid hown3; have HB3 := Lib.hid (HB2.out.trans hB3); clear hown3 hB3))
          have hcat : cat (l.take (i + 1)) = cat (l.take i) ++ askBytes r := HSN.out
          have hlen : (cat (l.take (i + 1))).length = n + m := by rw [hcat, List.length_append, HK.out.2.1, HM.out]
          have hlen2 : (cat (l.take i) ++ askBytes r).length = n + m := by rw [← hcat]; exact hlen
          have hO : BytesL.Own w3 w.heap.size (.slice a3 (n + m) c3') (cat (l.take (i + 1))) := by rw [hcat, ← hlen2]; exact HO3.out
          have HO := Lib.hid hO
          have HLN := Lib.hid hlen
          have HL2 := Lib.hid hlen2
          clear hcat hlen hlen2 hO
          go_roundw
          case rel => exact ⟨i + 1, n + m, a3, c3', by go_num, by first | rw [HL2.out] | (rw [List.length_append] at *; rw [HK.out.2.1, HM.out]), by omega, by omega, by omega, HB3.out, HO.out, HLN.out, fun x hx => by
            rcases HMEM.out x hx with rfl | h
            · exact ⟨HAE.out, HBD.out⟩
            · exact HK.out.2.2 x h⟩
          case measure => simp [intOf]; omega
      · have HA := Lib.hid (ask_bad r (.slice y1 y2 y3) (.slice u1 u2 u3) wo (hf.1.old hB) (hy.1.below hB) ha)
        generalize askE r = k at *
        unfold rqV at HA
        clear hf hy ha hB
        go_wp2_with (first
          | (go_at_call 12; (with_reducible refine HA.out.mono ?_); rintro e w2 ⟨rfl, hB2⟩; have HB2 := Lib.hid hB2; clear hB2))
        go_ret
        exact ⟨rfl, HB.out.trans (HB2.out.mono HB.out.size)⟩
    · have hend : i = min L 10 := by omega
      have HEND := Lib.hid hend
      have hex : ¬ (i < L) ∨ (i < L ∧ ¬ (i < 10)) := by omega
      obtain ⟨l', hl'⟩ : ∃ l', l.take i = l' := ⟨_, rfl⟩
      have hlen' : l'.length = i := by rw [← hl', List.length_take, HLL.out]; omega
      have HGET : Hid (∀ j (h : j < l'.length) (h2 : j < l.length), l'[j] = l[j]) := by
        intro j h h2
        have : (l.take i)[j]? = l[j]? := by rw [List.getElem?_take, if_pos (by omega)]
        rw [hl', List.getElem?_eq_getElem h, List.getElem?_eq_getElem h2] at this
        exact Option.some.inj this
      have HOK := Lib.hid HK.out.2.2
      have HOW := Lib.hid HK.out.1
      have HN := Lib.hid HK.out.2.1
      rw [hl'] at HOK HOW HN
      have HL' := Lib.hid hlen'
      clear hin hl' hlen' hend HK hB
      rcases hex with hx | ⟨hx, hx2⟩
      all_goals
        try (have hx3 : (10 : Int) ≤ (i : Int) := by omega)
        go_wp2
        go_loopw [5, 9] (fun bv jv wr => ∃ (j n2 : Nat) (ab2 : Option Addr) (cb2 : Nat), jv = .int .i64 j ∧ bv = .slice ab2 n2 cb2 ∧ j ≤ i ∧ Below w.heap.size w wr ∧ Hid (BytesAt wr (.slice ab2 n2 cb2) (cat (l'.drop j)))) (fun _ jv _ => 10 - (intOf jv).toNat)
        case atStart => exact ⟨0, n, ab, cb, rfl, rfl, Nat.zero_le _, HB.out, by rw [List.drop_zero]; exact BytesAt.of_own HOW.out⟩
        case round =>
          obtain ⟨j, n2, ab2, cb2, rfl, rfl, hj, hBj, HBy⟩ := hrel
          obtain ⟨wq, rfl⟩ : ∃ wq : World, wq = wr := ⟨_, rfl⟩
          have HBj := Lib.hid hBj
          by_cases hlt : j < i
          · obtain ⟨b, off, vf, vb, rfl, hb, c0, c1, c2, c3, c4, hf, hy⟩ := elem_at HL.out j (by rw [HLL.out]; omega)
            have hgj := HGET.out j (by rw [HL'.out]; exact hlt) (by rw [HLL.out]; omega)
            have hcc := cat_cons l' j (by rw [HL'.out]; exact hlt)
            have hokr := HOK.out (l'[j]'(by rw [HL'.out]; exact hlt)) (List.getElem_mem _)
            rw [hgj] at hcc hokr
            generalize l[j]'(by rw [HLL.out]; omega) = r at *
            have HMEMj := Lib.hid hgj
            replace c0 := (hBj.cell (p := ⟨b, off + j * 5, none⟩) hb).trans c0
            replace c1 := (hBj.cell (p := ⟨b, off + j * 5 + 1, none⟩) hb).trans c1
            replace c2 := (hBj.cell (p := ⟨b, off + j * 5 + 2, none⟩) hb).trans c2
            replace c3 := (hBj.cell (p := ⟨b, off + j * 5 + 3, none⟩) hb).trans c3
            replace c4 := (hBj.cell (p := ⟨b, off + j * 5 + 4, none⟩) hb).trans c4
            obtain ⟨m, hm⟩ : ∃ m, (askBytes r).length = m := ⟨_, rfl⟩
            have hm1 := ask_pos r
            have hcl := cat_len l' j
            have hcl2 := congrArg List.length hcc
            rw [List.length_append, hm] at hcl2
            have hn2 : n2 = (cat (l'.drop j)).length := by
              obtain ⟨q1, q2, q3, _⟩ := HBy.out.open
              simp only [Value.slice.injEq] at q3
              exact q3.2.1
            have hmn : m ≤ n2 := by omega
            have HRA : Hid (Calls Tryd.prog 6 #[.slice ab2 n2 cb2] wq fun e w' => ∃ (a : Option Addr) (n c : Nat) (a2 : Option Addr) (n3 c2 : Nat), e = .returned (.tuple #[.agg #[.string r.method, .string r.path, .string r.host, .slice a n c, .slice a2 n3 c2], .int .i64 m, .nilIface]) ∧ At FieldRows.encF w' (.slice a n c) r.fields ∧ BytesAt w' (.slice a2 n3 c2) r.body ∧ Below wq.heap.size wq w') := by
              refine (readAsk_any (.slice ab2 n2 cb2) (cat (l'.drop j)) wq HBy.out (cat_bd fun x hx z hz => (HOK.out x (List.mem_of_mem_drop hx)).2 z hz) (by have := HN.out; omega)).mono ?_
              rintro e w' ⟨hB, h⟩
              obtain ⟨t1, t2⟩ := ask_told (r := r) (rest := cat (l'.drop (j + 1))) hokr.1
              rw [← hcc] at t1 t2
              rcases h with ⟨_, a, n, c, a2, n3, c2, he, h1, h2⟩ | ⟨h0, _⟩
              · rw [t2] at he h1 h2
                simp only [hm] at he h1 h2
                exact ⟨a, n, c, a2, n3, c2, he, h1, h2, hB⟩
              · exact absurd t1 h0
            have hj0 : (0 : Int) ≤ (j : Int) := by omega
            have hj3 : (j : Int) < (L : Int) := by omega
            have hj4 : (j : Int) < 10 := by omega
            have d1 : decide ((j : Int) < (L : Int)) = true := decide_eq_true (by omega)
            have d2 : decide (j < L) = true := decide_eq_true (by omega)
            have d3 : decide ((j : Int) < 10) = true := decide_eq_true (by omega)
            have d4 : decide (j < 10) = true := decide_eq_true (by omega)
            have hjL : j < L := by omega
            have hj10 : j < 10 := by omega
            have hm2 : ¬ ((m : Int) < 1) := by omega
            have hsl := fun W => slice_from ab2 n2 cb2 m hmn W
            have HMN := Lib.hid hmn
            have HM := Lib.hid hm
            have HCC := Lib.hid hcc
            have HN2 := Lib.hid hn2
            have HF := Lib.hid hf
            have HY := Lib.hid hy
            obtain ⟨y1, y2, y3, rfl⟩ : ∃ x n c, vf = .slice x n c := by obtain ⟨x, c, h, _⟩ := hf.1; exact ⟨_, _, _, h⟩
            obtain ⟨u1, u2, u3, rfl⟩ : ∃ x n c, vb = .slice x n c := by obtain ⟨x, c, h, _⟩ := hy.1.open; exact ⟨_, _, _, h⟩
            clear hf hy hokr hcc hm hm1 hcl hcl2 hn2 hmn hBj hgj
            have hbq : b < wq.heap.size := block_lt_of_cell c0
            go_wp2_with (first
              | (go_at_call 6; (with_reducible refine HRA.out.mono ?_); rintro e w2 ⟨fa, fn, fc, ba, bn, bc, rfl, hAt, hBy2, hB2⟩; have HAT := Lib.hid hAt; have HBY2 := Lib.hid hBy2; have HB2 := Lib.hid hB2; have hbq2 := Nat.lt_of_lt_of_le hbq hB2.size; replace c0 := (hB2.cell (p := ⟨b, off + j * 5, none⟩) hbq).trans c0; replace c1 := (hB2.cell (p := ⟨b, off + j * 5 + 1, none⟩) hbq).trans c1; replace c2 := (hB2.cell (p := ⟨b, off + j * 5 + 2, none⟩) hbq).trans c2; replace c3 := (hB2.cell (p := ⟨b, off + j * 5 + 3, none⟩) hbq).trans c3; replace c4 := (hB2.cell (p := ⟨b, off + j * 5 + 4, none⟩) hbq).trans c4; clear hAt hBy2 hB2))
            have HB3 := Lib.hid (HB2.out.alloc HB2.out.size (.cells #[.string r.method, .string r.path, .string r.host, .slice fa fn fc, .slice ba bn bc] 25))
            have k0 : (w2.alloc (.cells #[.string r.method, .string r.path, .string r.host, .slice fa fn fc, .slice ba bn bc] 25)).cell? ⟨w2.heap.size, 0, none⟩ = some (.string r.method) := by simp
            have k1 : (w2.alloc (.cells #[.string r.method, .string r.path, .string r.host, .slice fa fn fc, .slice ba bn bc] 25)).cell? ⟨w2.heap.size, 1, none⟩ = some (.string r.path) := by simp
            have k2 : (w2.alloc (.cells #[.string r.method, .string r.path, .string r.host, .slice fa fn fc, .slice ba bn bc] 25)).cell? ⟨w2.heap.size, 2, none⟩ = some (.string r.host) := by simp
            have k3 : (w2.alloc (.cells #[.string r.method, .string r.path, .string r.host, .slice fa fn fc, .slice ba bn bc] 25)).cell? ⟨w2.heap.size, 3, none⟩ = some (.slice fa fn fc) := by simp
            have k4 : (w2.alloc (.cells #[.string r.method, .string r.path, .string r.host, .slice fa fn fc, .slice ba bn bc] 25)).cell? ⟨w2.heap.size, 4, none⟩ = some (.slice ba bn bc) := by simp
            replace c0 := (ModL.cell_alloc w2 (.cells #[.string r.method, .string r.path, .string r.host, .slice fa fn fc, .slice ba bn bc] 25) b (off + j * 5) hbq2).trans c0
            replace c1 := (ModL.cell_alloc w2 (.cells #[.string r.method, .string r.path, .string r.host, .slice fa fn fc, .slice ba bn bc] 25) b (off + j * 5 + 1) hbq2).trans c1
            replace c2 := (ModL.cell_alloc w2 (.cells #[.string r.method, .string r.path, .string r.host, .slice fa fn fc, .slice ba bn bc] 25) b (off + j * 5 + 2) hbq2).trans c2
            replace c3 := (ModL.cell_alloc w2 (.cells #[.string r.method, .string r.path, .string r.host, .slice fa fn fc, .slice ba bn bc] 25) b (off + j * 5 + 3) hbq2).trans c3
            replace c4 := (ModL.cell_alloc w2 (.cells #[.string r.method, .string r.path, .string r.host, .slice fa fn fc, .slice ba bn bc] 25) b (off + j * 5 + 4) hbq2).trans c4
            have HA3 := Lib.hid (HAT.out.old ((Below.refl w2.heap.size w2).alloc (Nat.le_refl _) (.cells #[.string r.method, .string r.path, .string r.host, .slice fa fn fc, .slice ba bn bc] 25)))
            have HY3 := Lib.hid (HBY2.out.below ((Below.refl w2.heap.size w2).alloc (Nat.le_refl _) (.cells #[.string r.method, .string r.path, .string r.host, .slice fa fn fc, .slice ba bn bc] 25)))
            have HG3 := Lib.hid (Nat.le_of_lt (block_lt_of_cell k0))
            have HG4 := Lib.hid (block_lt_of_cell k0)
            generalize w2.alloc (.cells #[.string r.method, .string r.path, .string r.host, .slice fa fn fc, .slice ba bn bc] 25) = w3 at *
            have HBW := Lib.hid (HBj.out.trans (HB3.out.mono HBj.out.size))
            have HSR : Hid (Calls Tryd.prog 8 #[.agg #[.string r.method, .string r.path, .string r.host, .slice fa fn fc, .slice ba bn bc], .agg #[.string r.method, .string r.path, .string r.host, .slice y1 y2 y3, .slice u1 u2 u3]] w3.drew fun e w' => e = .returned (.bool true) ∧ Below w3.drew.heap.size w3.drew w') :=
              SameC.sameR_any r (.slice fa fn fc) (.slice ba bn bc) (.slice y1 y2 y3) (.slice u1 u2 u3) w3.drew (HA3.out.old (Below.refl _ _).drew) (HF.out.1.old HBW.out.drew) (HY3.out.below (Below.refl _ _).drew) (HY.out.1.below HBW.out.drew) HY.out.2
            have HB3x := Lib.hid HB3.out
            clear HA3 HY3 HB3
            go_region_held3 (fun w' => (w'.cell? ⟨w2.heap.size, 0, none⟩ = some (.string r.method) ∧ w'.cell? ⟨w2.heap.size, 1, none⟩ = some (.string r.path) ∧ w'.cell? ⟨w2.heap.size, 2, none⟩ = some (.string r.host) ∧ w'.cell? ⟨w2.heap.size, 3, none⟩ = some (.slice fa fn fc) ∧ w'.cell? ⟨w2.heap.size, 4, none⟩ = some (.slice ba bn bc)) ∧ (w'.cell? ⟨b, off + j * 5, none⟩ = some (.string r.method) ∧ w'.cell? ⟨b, off + j * 5 + 1, none⟩ = some (.string r.path) ∧ w'.cell? ⟨b, off + j * 5 + 2, none⟩ = some (.string r.host) ∧ w'.cell? ⟨b, off + j * 5 + 3, none⟩ = some (.slice y1 y2 y3) ∧ w'.cell? ⟨b, off + j * 5 + 4, none⟩ = some (.slice u1 u2 u3))) (first | exact ⟨⟨k0, k1, k2, k3, k4⟩, ⟨c0, c1, c2, c3, c4⟩⟩ | exact ⟨⟨l0, l1, l2, l3, l4⟩, ⟨m0, m1, m2, m3, m4⟩⟩)
              (first | (go_at_call 8; (refine HSR.out.mono ?_); rintro e w4 ⟨rfl, hB4⟩; have HB4 := Lib.hid hB4; have l0 := (hB4.cell (p := ⟨w2.heap.size, 0, none⟩) HG4.out).trans k0; have l1 := (hB4.cell (p := ⟨w2.heap.size, 1, none⟩) HG4.out).trans k1; have l2 := (hB4.cell (p := ⟨w2.heap.size, 2, none⟩) HG4.out).trans k2; have l3 := (hB4.cell (p := ⟨w2.heap.size, 3, none⟩) HG4.out).trans k3; have l4 := (hB4.cell (p := ⟨w2.heap.size, 4, none⟩) HG4.out).trans k4; have hb3 := block_lt_of_cell c0; have m0 := (hB4.cell (p := ⟨b, off + j * 5, none⟩) hb3).trans c0; have m1 := (hB4.cell (p := ⟨b, off + j * 5 + 1, none⟩) hb3).trans c1; have m2 := (hB4.cell (p := ⟨b, off + j * 5 + 2, none⟩) hb3).trans c2; have m3 := (hB4.cell (p := ⟨b, off + j * 5 + 3, none⟩) hb3).trans c3; have m4 := (hB4.cell (p := ⟨b, off + j * 5 + 4, none⟩) hb3).trans c4; clear hB4))
            go_wp2
            have HB4' := Lib.hid (HBW.out.trans (((Below.refl w3.heap.size w3).drew.trans HB4.out).mono HBW.out.size))
            have HBN : Hid (BytesAt w4 (.slice (cutA ab2 m cb2) (n2 - m) (cb2 - m)) (cat (l'.drop (j + 1)))) := by
              have h1 := bytes_cutA (HBy.out.below (HB3x.out.trans (((Below.refl w3.heap.size w3).drew.trans HB4.out).mono HB3x.out.size))) m (n2 - m) (by rw [← HN2.out]; have := HMN.out; omega)
              have e : ((cat (l'.drop j)).drop m).take (n2 - m) = cat (l'.drop (j + 1)) := by
                have h2 := congrArg List.length HCC.out
                rw [List.length_append, HM.out, ← HN2.out] at h2
                have hd : (askBytes r ++ cat (l'.drop (j + 1))).drop m = cat (l'.drop (j + 1)) := by rw [← HM.out, List.drop_left]
                rw [HCC.out, hd, List.take_of_length_le (by omega)]
              rw [e] at h1
              exact h1
            go_roundw
            case rel => exact ⟨j + 1, n2 - m, cutA ab2 m cb2, cb2 - m, by go_num, rfl, by omega, HB4'.out, HBN.out⟩
            case measure => simp [intOf]; omega
          · have hji : j = i := by omega
            have h0 : (cat (l'.drop j)) = [] := by rw [List.drop_of_length_le (by rw [HL'.out]; omega)]; rfl
            have hn0 : n2 = 0 := by
              obtain ⟨q1, q2, q3, _⟩ := HBy.out.open
              simp only [Value.slice.injEq] at q3
              rw [q3.2.1, h0]; rfl
            subst hn0
            have hjx : ¬ (j < L) ∨ (j < L ∧ ¬ (j < 10)) := by omega
            clear h0
            rcases hjx with hx4 | ⟨hx4, hx5⟩
            all_goals
              go_wp2
            all_goals
              go_ret
            all_goals exact ⟨by first | rfl | simp, HBj.out⟩
end Go.Proofs.YtkohbbnnjakhjaaDoor.WalkLineRow
