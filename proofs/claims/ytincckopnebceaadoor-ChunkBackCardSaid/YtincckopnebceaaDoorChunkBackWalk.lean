/-
  The law ChunkBack answers true.
  Conditions: the table of math/bits, and errors.errorType, as they are laid; the bytes behind are no more than memory bears.
-/
import Derived.Test.YtincckopnebceaaDoorChunkCutsWalk
import Derived.Test.YtincckopnebceaaDoorChunkBackP
import Derived.Deep.DeepAppendWide
namespace Go.Proofs.YtincckopnebceaaDoor.WalkChunkBack
open Go.RowKit Go.Shelf BA ChunkI HexC ChunkC ChunkD ChunkR ToldC SlicesB WalkChunkCuts
set_option linter.unusedVariables false
set_option linter.unusedSimpArgs false

/-- append(b, x...), x of any length that memory bears. -/
theorem wpList_append_wide {w : World} {ops : Array Oper} {rest : List Oper} {o : Oper} {a : Act} {Q : Exit → Act → World → Prop} (hgd : o.guard = none) (s x : Operand)
    (ho : o.op = .call { callee := .builtin .append, args := #[s, x], argTypes := #[22, 22] })
    (base : Nat) (v : Value) (l : List Int) (hs : a.eval s = v) (hown : BytesL.Own w base v l) (vx : Value) (y : List Int) (hx : a.eval x = vx) (hy : BytesAt w vx y)
    (hlen : l.length + y.length ≤ 140737488355328 + 1000000000) (hbase : base ≤ w.heap.size)
    (h : ∀ v' w', BytesL.Own w' base v' (l ++ y) → Below base w w' → w.grownBy w' v.ownBlock → wpList Tryd.prog ops Q rest (a.put o.dst v') w') : wpList Tryd.prog ops Q (o :: rest) a w := by
  obtain ⟨i0, hi, hz0, hz1, hz2⟩ := info_parts BytesL.infoB
  obtain ⟨ax, cx, rfl, hc1, hc2, hnil, _⟩ := hy.open
  have key : ∃ v' w', (Builtin.append_ #[22, 22] o.type #[v, .slice ax y.length cx]).run Tryd.prog w = .ok v' w' ∧ BytesL.Own w' base v' (l ++ y) ∧ w.grownBy w' v.ownBlock := by
    cases ax with
    | none =>
      obtain rfl := hnil rfl
      have h0 : y = [] := List.eq_nil_of_length_eq_zero (by omega)
      subst h0
      refine ⟨v, w, run_append_owned_none (P := Tryd.prog) w base 22 o.type 5 i0 1 Tryd.underlying22 hi v l.length (BytesL.valB l) hown, by simpa using hown, World.grownBy.refl w _⟩
    | some ad =>
      obtain ⟨_, hcells⟩ := bytesAt_add hy
      obtain ⟨v', w', hr, h2, h3, _⟩ := run_append_own_wide (P := Tryd.prog) w base 22 o.type 5 i0 (.int .u8 0) 1 1 Tryd.underlying22 hi hz0 hz1 hz2 rfl (by decide) v l.length (BytesL.valB l) hown ad y.length cx (BytesL.valB y) (by simp) hcells
        (by intro u hu; obtain ⟨z, _, rfl⟩ := List.mem_map.1 hu; rfl) (by simp only [maxLen]; omega) (by omega) hbase
      exact ⟨v', w', hr, by simpa [BytesL.Own, BytesL.valB] using h2, h3⟩
  obtain ⟨v', w', hr, h2, h3⟩ := key
  refine wpList_plain hgd fun K hK => ?_
  unfold Oper.wp execOp
  simp only [ho, resolve, invoke, builtin, Sem.run_bind, Sem.run_pure, Result.andThen_ok, List.map_toArray, List.map_cons, List.map_nil, hs, hx, hr]
  exact hK _ _ (h v' w' h2 ((Below.refl _ _).grown h3 hbase (fun k hk => (hown.lt k hk).1)) h3)

theorem flat_upto (l : List Int) (sz k : Nat) : (upto (cut l sz) k).flatten = l.take (k * sz) := by
  induction k with
  | zero => simp [upto]
  | succ k ih =>
    rw [upto_succ, List.flatten_append, ih, cut_drop, Nat.add_mul, Nat.one_mul, List.take_add]
    simp
theorem flat_all {l : List Int} {sz : Nat} (h : 1 ≤ sz) : (upto (cut l sz) (pieces l.length sz)).flatten = l := by
  rw [flat_upto, List.take_of_length_le]
  have := (lt_pieces (len := l.length) (k := pieces l.length sz) h)
  omega
theorem cut_ne {l : List Int} {sz : Nat} (h : 1 ≤ sz) : ∀ q ∈ upto (cut l sz) (pieces l.length sz), q ≠ [] := by
  intro q hq
  obtain ⟨j, hj, rfl⟩ := List.mem_map.1 hq
  have h1 := (lt_pieces (len := l.length) (k := j) h).1 (by simpa using hj)
  intro e
  have := congrArg List.length e
  rw [cut_len] at this
  simp at this
  omega
theorem many_le (ls : List (List Int)) : ls.length ≤ (encAll ls).length := by
  induction ls with
  | nil => simp [encAll]
  | cons x ls ih =>
    have : (encAll (x :: ls)).length = (enc1 x).length + (encAll ls).length := by simp [encAll]
    have h2 : 1 ≤ (enc1 x).length := by simp only [enc1, List.length_append, List.length_cons]; omega
    rw [this, List.length_cons]; omega
/-- What a body in pieces is. -/
def EN (l : List Int) (sz : Nat) : List Int := encAll (upto (cut l sz) (pieces l.length sz)) ++ tail5
theorem en_whole {l : List Int} {sz : Nat} (h : 1 ≤ sz) (hl : l.length ≤ 8000) (more : List Int) : dec (EN l sz ++ more) ((EN l sz ++ more).length + 1) 0 [] = (l, (EN l sz).length, 0) := by
  have hm := many_le (upto (cut l sz) (pieces l.length sz))
  have := dec_whole (b := EN l sz ++ more) (more := more) (upto (cut l sz) (pieces l.length sz)) ((EN l sz ++ more).length + 1) 0 [] (cut_ne h) (by rw [flat_all h]; simpa using hl) (by simp only [EN, List.length_append]; omega) rfl
  rw [this, flat_all h]
  simp [EN]
theorem en_cut {l : List Int} {sz c : Nat} (h : 1 ≤ sz) (hl : l.length ≤ 8000) (hc : c < (EN l sz).length) : dec ((EN l sz).take c) (((EN l sz).take c).length + 1) 0 [] = ([], 0, 8) := by
  have hcl : ((EN l sz).take c).length = c := by rw [List.length_take]; omega
  exact dec_cut (b := (EN l sz).take c) (upto (cut l sz) (pieces l.length sz)) (((EN l sz).take c).length + 1) 0 c [] (cut_ne h) (by rw [flat_all h]; simpa using hl) (by rw [hcl]; omega) hc rfl
theorem pieces_le (len sz : Nat) (hsz : 1 ≤ sz) : pieces len sz ≤ len := by
  rcases Nat.eq_zero_or_pos (pieces len sz) with h | h
  · omega
  · have := (lt_pieces (len := len) (k := pieces len sz - 1) hsz).1 (by omega)
    have h2 : (pieces len sz - 1) * 1 ≤ (pieces len sz - 1) * sz := Nat.mul_le_mul_left _ hsz
    omega
theorem en_len {l : List Int} {sz : Nat} (h : 1 ≤ sz) (h2 : sz ≤ 8000) (hl : l.length ≤ 8000) : 5 ≤ (EN l sz).length ∧ (EN l sz).length ≤ 64064005 := by
  refine ⟨by simp [EN, tail5], ?_⟩
  have h := encAll_len (upto (cut l sz) (pieces l.length sz)) (fun q hq => by
    obtain ⟨j, _, rfl⟩ := List.mem_map.1 hq
    rw [cut_len]; omega)
  have hp := pieces_le l.length sz (by omega)
  rw [upto_length] at h
  simp only [EN, List.length_append, tail5, List.length_cons, List.length_nil]
  omega

theorem decode_good {a : Option Addr} {n cap : Nat} {b x : List Int} {u : Nat} {w : World} (hn : b.length = n) (hb : BytesAt w (.slice a n cap) b) (hz : ∀ z ∈ b, 0 ≤ z ∧ z ≤ 255) (hR : dec b (b.length + 1) 0 [] = (x, u, 0)) :
    Calls Tryd.prog 12 #[.slice a n cap] w fun e w' => ∃ a1 c1, e = .returned (.tuple #[.slice a1 x.length c1, .int .i64 u, .nilIface]) ∧ BytesAt w' (.slice a1 x.length c1) x ∧ Below w.heap.size w w' := by
  subst hn
  have h := decode_any a cap b w hb hz
  rw [hR] at h
  refine h.mono ?_
  rintro e w' ⟨hB1, ⟨_, a1, c1, rfl, hO⟩ | ⟨h, _⟩⟩
  · exact ⟨a1, c1, rfl, BytesAt.of_own hO, hB1⟩
  · exact absurd rfl h
theorem decode_err {a : Option Addr} {n cap : Nat} {b : List Int} {k : Nat} {w : World} (hn : b.length = n) (hb : BytesAt w (.slice a n cap) b) (hz : ∀ z ∈ b, 0 ≤ z ∧ z ≤ 255) (hR : dec b (b.length + 1) 0 [] = ([], 0, k)) (hk : k ≠ 0) :
    Calls Tryd.prog 12 #[.slice a n cap] w fun e w' => e = .returned (.tuple #[.slice none 0 0, .int .i64 0, .iface 56 (.int .i64 k)]) ∧ Below w.heap.size w w' := by
  subst hn
  have h := decode_any a cap b w hb hz
  rw [hR] at h
  refine h.mono ?_
  rintro e w' ⟨hB1, ⟨h, _⟩ | ⟨_, rfl⟩⟩
  · exact absurd h hk
  · exact ⟨rfl, hB1⟩
def E0L : List Int := [50, 13, 10, 97, 98, 13, 10, 49, 13, 10, 99, 13, 10, 48, 13, 10, 13, 10]
theorem e0_is : EN [97, 98, 99] 2 = E0L := by
  simp [EN, upto, pieces, cut, encAll, enc1, hexL_small, dig, tail5, List.range_succ, E0L]
/-- The three letters that the text itself holds. -/
theorem fact_at (w : World) : ∃ W0, (convert 22 22 (.slice (some ⟨w.heap.size, 0, none⟩) 3 3)).run Tryd.prog (w.alloc (.cells #[.int .u8 97, .int .u8 98, .int .u8 99] 5)) = .ok (.slice (some ⟨w.heap.size, 0, none⟩) 3 3) W0 ∧ Below w.heap.size w W0 ∧ BytesAt W0 (.slice (some ⟨w.heap.size, 0, none⟩) 3 3) [97, 98, 99] := by
  have hc : (w.alloc (.cells #[.int .u8 97, .int .u8 98, .int .u8 99] 5)).heap[w.heap.size]? = some (.cells #[.int .u8 97, .int .u8 98, .int .u8 99] 5 (0, 0)) := heap_alloc_new w _
  refine ⟨_, ChunkC.run_mark _ w.heap.size 3 3 _ _ hc, ?_, ?_⟩
  · exact ((Below.refl _ _).alloc (Nat.le_refl _) _).trans ((marked_freeze _ w.heap.size _).below (Nat.le_refl _))
  · refine (marked_freeze _ w.heap.size _).at _ _ _ hc ?_
    refine ⟨some ⟨w.heap.size, 0, none⟩, 3, by simp [BytesL.valB], by simp [BytesL.valB], by simp, by simp, fun i hi => ⟨w.heap.size, 0, rfl, by simp, ?_⟩⟩
    have h3 : i < 3 := by simpa [BytesL.valB] using hi
    obtain rfl | rfl | rfl : i = 0 ∨ i = 1 ∨ i = 2 := by omega
    all_goals simp [BytesL.valB]
theorem en_ok (a : Option Addr) (cap sz n : Nat) (l : List Int) (w : World) (hn : l.length = n) (hb : BytesAt w (.slice a n cap) l) (hsz : 1 ≤ sz ∧ sz ≤ 8000) (hl : l.length ≤ 8000) (hT : Tab16 w) :
    Calls Tryd.prog 8 #[.slice a n cap, .int .i64 sz] w fun e w' => ∃ g c, e = .returned (.tuple #[.slice (some ⟨g, 0, none⟩) (EN l sz).length c, .nilIface]) ∧ (EN l sz).length ≤ c ∧ w.heap.size ≤ g ∧ BytesL.Own w' w.heap.size (.slice (some ⟨g, 0, none⟩) (EN l sz).length c) (EN l sz) ∧ Below w.heap.size w w' := by
  subst hn
  refine (encode_ok a cap sz l w hb hsz hl hT).mono ?_
  rintro e w' ⟨v, rfl, h2, h3⟩
  have hne : EN l sz ≠ [] := by
    intro e
    have := (en_len hsz.1 hsz.2 hl).1
    rw [e] at this
    simp at this
  obtain ⟨g, c, rfl, h4, h5, h6, h7⟩ := BytesL.Own.form h2 hne
  exact ⟨g, c, rfl, h4, h6, h2, h3⟩
set_option maxRecDepth 100000 in
set_option maxHeartbeats 4000000 in
theorem walk (v : Value) (l : List Int) (size other : Int) (vm : Value) (more : List Int) (ct : Int) (w : World) (hv : Args.BytesAt w v l) (hs : Args.I64 size) (ho : Args.I64 other) (hvm : Args.BytesAt w vm more) (hct : Args.I64 ct) (hT : Tab16 w)
    (hg : w.cell? ⟨0, 0, none⟩ = some (.iface 134 (.agg #[.pointer (some ⟨7, 24, none⟩)]))) (hmore : more.length ≤ 140737488351232) :
    Calls Tryd.prog 5 #[v, .int .i64 size, .int .i64 other, vm, .int .i64 ct] w fun e w' => e = .returned (.bool true) ∧ Below w.heap.size w w' := by
  obtain ⟨hv, hvl⟩ := hv
  obtain ⟨hvm, hml⟩ := hvm
  have hlt : 0 < w.heap.size := by
    rcases Nat.lt_or_ge 0 w.heap.size with h | h
    · exact h
    · simp [World.cell?, Array.getElem?_eq_none h] at hg
  obtain ⟨a, cap, rfl, _⟩ := hv.open
  obtain ⟨am, capm, rfl, _⟩ := hvm.open
  obtain ⟨W0, hmk, hB0, hat0⟩ := fact_at w
  have hs0 := hB0.size
  have hE0 := en_ok (some ⟨w.heap.size, 0, none⟩) 3 2 3 [97, 98, 99] W0 rfl hat0 ⟨by decide, by decide⟩ (by decide) (hT.below hB0 hT.2)
  rw [e0_is] at hE0
  have HE0 : Hid (Calls Tryd.prog 8 #[.slice (some ⟨w.heap.size, 0, none⟩) 3 3, .int .i64 2] W0 fun e w' => ∃ g c, e = .returned (.tuple #[.slice (some ⟨g, 0, none⟩) 18 c, .nilIface]) ∧ 18 ≤ c ∧ W0.heap.size ≤ g ∧ BytesL.Own w' W0.heap.size (.slice (some ⟨g, 0, none⟩) 18 c) E0L ∧ Below W0.heap.size W0 w') := hE0
  have HG := Lib.hid (fun w1 (hB : Below w.heap.size w w1) => (hB.cell (p := ⟨0, 0, none⟩) hlt).trans hg)
  obtain ⟨n, hn⟩ : ∃ n, l.length = n := ⟨_, rfl⟩
  obtain ⟨nm, hnm⟩ : ∃ n, more.length = n := ⟨_, rfl⟩
  have HBa : ∀ sz : Int, ¬ (1 ≤ sz ∧ sz ≤ 8000 ∧ n ≤ 8000) → ∃ kk : Int, ∀ w1, Below w.heap.size w w1 → Calls Tryd.prog 8 #[.slice a n cap, .int .i64 sz] w1 fun e w' => e = .returned (.tuple #[.slice none 0 0, .iface 56 (.int .i64 kk)]) ∧ w1 = w' := fun sz hb => by
    by_cases hr : sz < 1 ∨ 8000 < sz
    · exact ⟨1, fun w1 _ => encode_range _ sz w1 hr⟩
    · exact ⟨4, fun w1 _ => encode_full a n cap sz w1 (by omega) (by omega) (by omega)⟩
  have HGo : ∀ sz : Nat, 1 ≤ sz → sz ≤ 8000 → n ≤ 8000 → ∀ w1, Below w.heap.size w w1 → Calls Tryd.prog 8 #[.slice a n cap, .int .i64 sz] w1 fun e w' => ∃ g c, e = .returned (.tuple #[.slice (some ⟨g, 0, none⟩) (EN l sz).length c, .nilIface]) ∧ (EN l sz).length ≤ c ∧ w1.heap.size ≤ g ∧ BytesL.Own w' w1.heap.size (.slice (some ⟨g, 0, none⟩) (EN l sz).length c) (EN l sz) ∧ Below w1.heap.size w1 w' := fun sz h1 h2 h3 w1 hB =>
    en_ok a cap sz n l w1 hn (by rw [← hn]; exact hv.below hB) ⟨h1, h2⟩ (by omega) (hT.below hB hT.2)
  have HV := Lib.hid hv
  have HVM := Lib.hid hvm
  have HVL := Lib.hid hvl
  have HML := Lib.hid hml
  have HN := Lib.hid hn
  have HNM := Lib.hid hnm
  rw [hn, hnm]
  rw [hnm] at hmore
  clear hv hvm hE0 hg hvl hml hT hn hnm hat0
  by_cases hb1 : 1 ≤ size ∧ size ≤ 8000 ∧ n ≤ 8000
  · by_cases hb2 : 1 ≤ other ∧ other ≤ 8000
    · obtain ⟨sz, rfl⟩ : ∃ sz : Nat, size = sz := ⟨size.toNat, by omega⟩
      obtain ⟨so, rfl⟩ : ∃ so : Nat, other = so := ⟨other.toNat, by omega⟩
      have hA := HGo sz (by omega) (by omega) hb1.2.2
      have hB := HGo so (by omega) (by omega) hb1.2.2
      have hl8 : l.length ≤ 8000 := by rw [HN.out]; exact hb1.2.2
      have hw1 := en_whole (l := l) (sz := sz) (by omega) hl8 more
      have hw2 := en_whole (l := l) (sz := so) (by omega) hl8 []
      rw [List.append_nil] at hw2
      have hcut := fun c hc => en_cut (l := l) (sz := sz) (c := c) (by omega) hl8 hc
      have hL1 := en_len (l := l) (sz := sz) (by omega) (by omega) hl8
      have hL2 := en_len (l := l) (sz := so) (by omega) (by omega) hl8
      have hz1 : ∀ z ∈ EN l sz, 0 ≤ z ∧ z ≤ 255 := enc_bd HVL.out sz _
      have hz2 : ∀ z ∈ EN l so, 0 ≤ z ∧ z ≤ 255 := enc_bd HVL.out so _
      obtain ⟨E1, hE1⟩ : ∃ E, EN l sz = E := ⟨_, rfl⟩
      obtain ⟨E2, hE2⟩ : ∃ E, EN l so = E := ⟨_, rfl⟩
      rw [hE1] at hA hw1 hcut hL1 hz1
      rw [hE2] at hB hw2 hL2 hz2
      obtain ⟨EM, hEM⟩ : ∃ E, E1 ++ more = E := ⟨_, rfl⟩
      have hzm : ∀ z ∈ EM, 0 ≤ z ∧ z ≤ 255 := by
        intro z hz
        rw [← hEM] at hz
        rcases List.mem_append.1 hz with hz | hz
        · exact hz1 z hz
        · exact HML.out z hz
      rw [hEM] at hw1
      have HAP : Hid (E1.length + more.length ≤ 140737488355328 + 1000000000) := (by show _ ≤ _; rw [HNM.out]; omega)
      have HEM := Lib.hid hEM
      have HLX := Lib.hid (And.intro hL1 hL2)
      obtain ⟨N1, hN1⟩ : ∃ N, E1.length = N := ⟨_, rfl⟩
      obtain ⟨N2, hN2⟩ : ∃ N, E2.length = N := ⟨_, rfl⟩
      rw [hN1] at hA hL1 hw1
      rw [hN2] at hB hL2 hw2
      have HA := Lib.hid hA
      have HB := Lib.hid hB
      have HW1 := Lib.hid hw1
      have HW2 := Lib.hid hw2
      have HCU := Lib.hid hcut
      have HZ1 := Lib.hid hz1
      have HZ2 := Lib.hid hz2
      have HZM := Lib.hid hzm
      have HN1 := Lib.hid hN1
      have HN2 := Lib.hid hN2
      have hn5 := hL1.1
      clear hA hB hw1 hw2 hcut hz1 hz2 hzm hEM hE1 hE2 hN1 hN2 HGo HBa hL1 hL2 hl8 hb2
      by_cases hin : 0 ≤ ct ∧ ct < N1
      · obtain ⟨c, rfl⟩ : ∃ c : Nat, ct = c := ⟨ct.toNat, by omega⟩
        obtain ⟨hin1, hin2⟩ := hin
        have hcN : c < N1 := by omega
        have HVM' : Hid (∀ w1, Below w.heap.size w w1 → BytesAt w1 (.slice am nm capm) more) := (fun w1 hB => by have h := HVM.out.below hB; rw [HNM.out] at h; exact h)
        go_enter Tryd.func5, Tryd.ntmps5
        go_wp2_with (first
          | (go_at_call 8; (with_reducible refine HE0.out.mono ?_); rintro e w1 ⟨g0, c0, rfl, hq0, hg0, hO0, hB1⟩; have hBw1 := hB0.trans (hB1.mono hs0); have hs1 := hBw1.size; have HX0 := Lib.hid (BytesAt.of_own hO0); have hcv0 : (convert 22 9 (.slice (some ⟨g0, 0, none⟩) 18 c0)).run Tryd.prog w1 = .ok (.string ⟨#[50, 13, 10, 97, 98, 13, 10, 49, 13, 10, 99, 13, 10, 48, 13, 10, 13, 10]⟩) w1 := (conv_back HX0.out (by decide)))
          | (go_at_call 8; (with_reducible refine (HA.out w1 hBw1).mono ?_); rintro e w2 ⟨g1, c1, rfl, hq1, hg1, hO1, hB2⟩; have HO1 := Lib.hid hO1; have hg1' : g1 < w2.heap.size := (World.ownsRow.lt hO1 g1 rfl).2; have hBw2 := hBw1.trans (hB2.mono hs1); have hs2 := hBw2.size; clear hO1)
          | (go_at_call 8; (with_reducible refine (HB.out w2 hBw2).mono ?_); rintro e w3 ⟨g2, c2, rfl, hq2, hg2, hO2, hB3⟩; have HNE : Hid (g2 ≠ g1) := (by show g2 ≠ g1; omega); have HO2 := Lib.hid hO2; have HO1' := Lib.hid ((BytesL.Own.below HO1.out hB3).mono hs1); have hBw3 := hBw2.trans (hB3.mono hs2); have hs3 := hBw3.size; clear hO2)
          | (go_at_call 12; (with_reducible refine (decode_err (n := c) (cap := c1) (b := E1.take c) (by rw [List.length_take, HN1.out]; omega) (bytesAt_take (BytesAt.of_own HO1'.out) c (by rw [HN1.out]; omega)) (fun z hz => HZ1.out z (List.mem_of_mem_take hz)) (HCU.out c (by rw [HN1.out]; exact hcN)) (by decide)).mono ?_); rintro e w4 ⟨rfl, hB4⟩; have HO1b := Lib.hid (BytesL.Own.below HO1'.out hB4); have HO2b := Lib.hid (BytesL.Own.below HO2.out hB4); have hBw4 := hBw3.trans (hB4.mono hs3); have hs4 := hBw4.size)
          | (go_at_call 10; (with_reducible refine (error_any (ErrIs.err 8) 8 w4 (HG.out w4 hBw4)).mono ?_); rintro e w5 ⟨rfl, hB5⟩; have HO1c := Lib.hid (BytesL.Own.below HO1b.out hB5); have HO2c := Lib.hid (BytesL.Own.below HO2b.out hB5); have hBw5 := hBw4.trans (hB5.mono hs4); have hs5 := hBw5.size)
          | (at_builtin; refine wpList_append_wide rfl _ _ rfl w.heap.size _ _ rfl HO1c.out _ _ rfl (HVM'.out w5 hBw5) HAP.out hs5 ?_; intro v6 w6 ho6 hB6 hgr6; have HO6 : Hid (BytesL.Own w6 w.heap.size v6 EM) := (by have h := ho6; rw [HEM.out] at h; exact h); have HX2 := Lib.hid (BytesAt.of_own (World.ownsRow.kept HO2c.out hgr6 (.inr (fun e => HNE.out (Option.some.inj e))))); have hBw6 := hBw5.trans hB6; have hs6 := hBw6.size; clear ho6 hgr6; obtain ⟨a6, c6, rfl⟩ := ChunkD.row_form HO6.out)
          | (go_at_call 12; (with_reducible refine (decode_good rfl (BytesAt.of_own HO6.out) HZM.out HW1.out).mono ?_); rintro e w7 ⟨a7, c7, rfl, hx7, hB7⟩; have HX7 := Lib.hid hx7; have HX2b := Lib.hid (HX2.out.below hB7); have hBw7 := hBw6.trans (hB7.mono hs6); have hs7 := hBw7.size; clear hx7)
          | (go_at_call 12; (with_reducible refine (decode_good HN2.out HX2b.out HZ2.out (by rw [HN2.out]; exact HW2.out)).mono ?_); rintro e w8 ⟨a8, c8, rfl, hx8, hB8⟩; have hBw8 := hBw7.trans (hB8.mono hs7); have hcx := conv_back (HX7.out.below hB8) HVL.out; have hcy := conv_back hx8 HVL.out; have hcb : (convert 22 9 (.slice a n cap)).run Tryd.prog w8 = .ok (.string (strOf l)) w8 := (by have h := conv_back (HV.out.below hBw8) HVL.out; rw [HN.out] at h; exact h); clear hx8))
        go_ret
        exact ⟨rfl, hBw8⟩
      · have hcase : ¬ 0 ≤ ct ∨ (0 ≤ ct ∧ ¬ ct < N1) := by omega
        clear hin
        rcases hcase with hin1 | ⟨hin1, hin2⟩
        · skip
          have HVM' : Hid (∀ w1, Below w.heap.size w w1 → BytesAt w1 (.slice am nm capm) more) := (fun w1 hB => by have h := HVM.out.below hB; rw [HNM.out] at h; exact h)
          go_enter Tryd.func5, Tryd.ntmps5
          go_wp2_with (first
            | (go_at_call 8; (with_reducible refine HE0.out.mono ?_); rintro e w1 ⟨g0, c0, rfl, hq0, hg0, hO0, hB1⟩; have hBw1 := hB0.trans (hB1.mono hs0); have hs1 := hBw1.size; have HX0 := Lib.hid (BytesAt.of_own hO0); have hcv0 : (convert 22 9 (.slice (some ⟨g0, 0, none⟩) 18 c0)).run Tryd.prog w1 = .ok (.string ⟨#[50, 13, 10, 97, 98, 13, 10, 49, 13, 10, 99, 13, 10, 48, 13, 10, 13, 10]⟩) w1 := (conv_back HX0.out (by decide)))
            | (go_at_call 8; (with_reducible refine (HA.out w1 hBw1).mono ?_); rintro e w2 ⟨g1, c1, rfl, hq1, hg1, hO1, hB2⟩; have HO1 := Lib.hid hO1; have hg1' : g1 < w2.heap.size := (World.ownsRow.lt hO1 g1 rfl).2; have hBw2 := hBw1.trans (hB2.mono hs1); have hs2 := hBw2.size; clear hO1)
            | (go_at_call 8; (with_reducible refine (HB.out w2 hBw2).mono ?_); rintro e w3 ⟨g2, c2, rfl, hq2, hg2, hO2, hB3⟩; have HNE : Hid (g2 ≠ g1) := (by show g2 ≠ g1; omega); have HO2 := Lib.hid hO2; have HO1' := Lib.hid ((BytesL.Own.below HO1.out hB3).mono hs1); have hBw3 := hBw2.trans (hB3.mono hs2); have hs3 := hBw3.size; clear hO2)
            | (at_builtin; refine wpList_append_wide rfl _ _ rfl w.heap.size _ _ rfl HO1'.out _ _ rfl (HVM'.out w3 hBw3) HAP.out hs3 ?_; intro v6 w6 ho6 hB6 hgr6; have HO6 : Hid (BytesL.Own w6 w.heap.size v6 EM) := (by have h := ho6; rw [HEM.out] at h; exact h); have HX2 := Lib.hid (BytesAt.of_own (World.ownsRow.kept HO2.out hgr6 (.inr (fun e => HNE.out (Option.some.inj e))))); have hBw6 := hBw3.trans hB6; have hs6 := hBw6.size; clear ho6 hgr6; obtain ⟨a6, c6, rfl⟩ := ChunkD.row_form HO6.out)
            | (go_at_call 12; (with_reducible refine (decode_good rfl (BytesAt.of_own HO6.out) HZM.out HW1.out).mono ?_); rintro e w7 ⟨a7, c7, rfl, hx7, hB7⟩; have HX7 := Lib.hid hx7; have HX2b := Lib.hid (HX2.out.below hB7); have hBw7 := hBw6.trans (hB7.mono hs6); have hs7 := hBw7.size; clear hx7)
            | (go_at_call 12; (with_reducible refine (decode_good HN2.out HX2b.out HZ2.out (by rw [HN2.out]; exact HW2.out)).mono ?_); rintro e w8 ⟨a8, c8, rfl, hx8, hB8⟩; have hBw8 := hBw7.trans (hB8.mono hs7); have hcx := conv_back (HX7.out.below hB8) HVL.out; have hcy := conv_back hx8 HVL.out; have hcb : (convert 22 9 (.slice a n cap)).run Tryd.prog w8 = .ok (.string (strOf l)) w8 := (by have h := conv_back (HV.out.below hBw8) HVL.out; rw [HN.out] at h; exact h); clear hx8))
          go_ret
          exact ⟨rfl, hBw8⟩
        · skip
          have HVM' : Hid (∀ w1, Below w.heap.size w w1 → BytesAt w1 (.slice am nm capm) more) := (fun w1 hB => by have h := HVM.out.below hB; rw [HNM.out] at h; exact h)
          go_enter Tryd.func5, Tryd.ntmps5
          go_wp2_with (first
            | (go_at_call 8; (with_reducible refine HE0.out.mono ?_); rintro e w1 ⟨g0, c0, rfl, hq0, hg0, hO0, hB1⟩; have hBw1 := hB0.trans (hB1.mono hs0); have hs1 := hBw1.size; have HX0 := Lib.hid (BytesAt.of_own hO0); have hcv0 : (convert 22 9 (.slice (some ⟨g0, 0, none⟩) 18 c0)).run Tryd.prog w1 = .ok (.string ⟨#[50, 13, 10, 97, 98, 13, 10, 49, 13, 10, 99, 13, 10, 48, 13, 10, 13, 10]⟩) w1 := (conv_back HX0.out (by decide)))
            | (go_at_call 8; (with_reducible refine (HA.out w1 hBw1).mono ?_); rintro e w2 ⟨g1, c1, rfl, hq1, hg1, hO1, hB2⟩; have HO1 := Lib.hid hO1; have hg1' : g1 < w2.heap.size := (World.ownsRow.lt hO1 g1 rfl).2; have hBw2 := hBw1.trans (hB2.mono hs1); have hs2 := hBw2.size; clear hO1)
            | (go_at_call 8; (with_reducible refine (HB.out w2 hBw2).mono ?_); rintro e w3 ⟨g2, c2, rfl, hq2, hg2, hO2, hB3⟩; have HNE : Hid (g2 ≠ g1) := (by show g2 ≠ g1; omega); have HO2 := Lib.hid hO2; have HO1' := Lib.hid ((BytesL.Own.below HO1.out hB3).mono hs1); have hBw3 := hBw2.trans (hB3.mono hs2); have hs3 := hBw3.size; clear hO2)
            | (at_builtin; refine wpList_append_wide rfl _ _ rfl w.heap.size _ _ rfl HO1'.out _ _ rfl (HVM'.out w3 hBw3) HAP.out hs3 ?_; intro v6 w6 ho6 hB6 hgr6; have HO6 : Hid (BytesL.Own w6 w.heap.size v6 EM) := (by have h := ho6; rw [HEM.out] at h; exact h); have HX2 := Lib.hid (BytesAt.of_own (World.ownsRow.kept HO2.out hgr6 (.inr (fun e => HNE.out (Option.some.inj e))))); have hBw6 := hBw3.trans hB6; have hs6 := hBw6.size; clear ho6 hgr6; obtain ⟨a6, c6, rfl⟩ := ChunkD.row_form HO6.out)
            | (go_at_call 12; (with_reducible refine (decode_good rfl (BytesAt.of_own HO6.out) HZM.out HW1.out).mono ?_); rintro e w7 ⟨a7, c7, rfl, hx7, hB7⟩; have HX7 := Lib.hid hx7; have HX2b := Lib.hid (HX2.out.below hB7); have hBw7 := hBw6.trans (hB7.mono hs6); have hs7 := hBw7.size; clear hx7)
            | (go_at_call 12; (with_reducible refine (decode_good HN2.out HX2b.out HZ2.out (by rw [HN2.out]; exact HW2.out)).mono ?_); rintro e w8 ⟨a8, c8, rfl, hx8, hB8⟩; have hBw8 := hBw7.trans (hB8.mono hs7); have hcx := conv_back (HX7.out.below hB8) HVL.out; have hcy := conv_back hx8 HVL.out; have hcb : (convert 22 9 (.slice a n cap)).run Tryd.prog w8 = .ok (.string (strOf l)) w8 := (by have h := conv_back (HV.out.below hBw8) HVL.out; rw [HN.out] at h; exact h); clear hx8))
          go_ret
          exact ⟨rfl, hBw8⟩
    · obtain ⟨sz, rfl⟩ : ∃ sz : Nat, size = sz := ⟨size.toNat, by omega⟩
      have hA := HGo sz (by omega) (by omega) hb1.2.2
      obtain ⟨kk, hB⟩ := HBa other (by omega)
      obtain ⟨N1, hN1⟩ : ∃ N, (EN l sz).length = N := ⟨_, rfl⟩
      rw [hN1] at hA
      have HA := Lib.hid hA
      have HB := Lib.hid hB
      clear HGo HBa hA hB hb1 hb2
      go_enter Tryd.func5, Tryd.ntmps5
      go_wp2_with (first
        | (go_at_call 8; (with_reducible refine HE0.out.mono ?_); rintro e w1 ⟨g0, c0, rfl, hq0, hg0, hO0, hB1⟩; have hBw1 := hB0.trans (hB1.mono hs0); have hs1 := hBw1.size; have HX0 := Lib.hid (BytesAt.of_own hO0); have hcv0 : (convert 22 9 (.slice (some ⟨g0, 0, none⟩) 18 c0)).run Tryd.prog w1 = .ok (.string ⟨#[50, 13, 10, 97, 98, 13, 10, 49, 13, 10, 99, 13, 10, 48, 13, 10, 13, 10]⟩) w1 := (conv_back HX0.out (by decide)))
        | (go_at_call 8; (with_reducible refine (HA.out w1 hBw1).mono ?_); rintro e w2 ⟨g1, c1, rfl, hq1, hg1, hO1, hB2⟩; have HO1 := Lib.hid hO1; have hBw2 := hBw1.trans (hB2.mono hs1); have hs2 := hBw2.size; clear hO1)
        | (go_at_call 8; (with_reducible refine (HB.out w2 hBw2).mono ?_); rintro e w3 ⟨rfl, rfl⟩))
      go_ret
      exact ⟨rfl, hBw2⟩
  · obtain ⟨kk, hA⟩ := HBa size (by omega)
    have hB : ∃ (E : List Int) (er : Value), ∀ w1, Below w.heap.size w w1 → Calls Tryd.prog 8 #[.slice a n cap, .int .i64 other] w1 fun e w' => ∃ v c, e = .returned (.tuple #[.slice v E.length c, er]) ∧ Below w1.heap.size w1 w' := by
      by_cases hb2 : 1 ≤ other ∧ other ≤ 8000 ∧ n ≤ 8000
      · obtain ⟨so, rfl⟩ : ∃ so : Nat, other = so := ⟨other.toNat, by omega⟩
        exact ⟨EN l so, .nilIface, fun w1 hB => (HGo so (by omega) (by omega) hb2.2.2 w1 hB).mono fun e w' ⟨g, c, h1, _, _, _, h2⟩ => ⟨_, c, h1, h2⟩⟩
      · obtain ⟨k2, h⟩ := HBa other hb2
        exact ⟨[], .iface 56 (.int .i64 k2), fun w1 hB => (h w1 hB).mono fun e w' ⟨h1, h2⟩ => ⟨none, 0, h1, by rw [← h2]; exact Below.refl _ _⟩⟩
    obtain ⟨E, er, hB⟩ := hB
    obtain ⟨NE, hNE⟩ : ∃ N, E.length = N := ⟨_, rfl⟩
    rw [hNE] at hB
    have HA := Lib.hid hA
    have HB := Lib.hid hB
    clear HGo HBa hA hB hb1
    go_enter Tryd.func5, Tryd.ntmps5
    go_wp2_with (first
      | (go_at_call 8; (with_reducible refine HE0.out.mono ?_); rintro e w1 ⟨g0, c0, rfl, hq0, hg0, hO0, hB1⟩; have hBw1 := hB0.trans (hB1.mono hs0); have hs1 := hBw1.size; have HX0 := Lib.hid (BytesAt.of_own hO0); have hcv0 : (convert 22 9 (.slice (some ⟨g0, 0, none⟩) 18 c0)).run Tryd.prog w1 = .ok (.string ⟨#[50, 13, 10, 97, 98, 13, 10, 49, 13, 10, 99, 13, 10, 48, 13, 10, 13, 10]⟩) w1 := (conv_back HX0.out (by decide)))
      | (go_at_call 8; (with_reducible refine (HA.out w1 hBw1).mono ?_); rintro e w2 ⟨rfl, rfl⟩)
      | (go_at_call 8; (with_reducible refine (HB.out w1 hBw1).mono ?_); rintro e w3 ⟨v3, c3, rfl, hB3⟩; have hBw3 := hBw1.trans (hB3.mono hs1)))
    go_ret
    exact ⟨rfl, hBw3⟩
end Go.Proofs.YtincckopnebceaaDoor.WalkChunkBack
