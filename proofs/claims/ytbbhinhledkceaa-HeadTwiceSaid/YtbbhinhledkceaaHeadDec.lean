/-
  head's decode and Decode over this seat's translation, of what Encode says.
  Conditions: the bounds that stand in each.
-/
import Derived.Test.YtbbhinhledkceaaHeadDecP
import Derived.Test.YtbbhinhledkceaaHeadFull
import Derived.Outline
import Derived.Deep.RegionHeld3
namespace Go.Proofs.Ytbbhinhledkceaa.HeadF
open Go.RowKit RowsK FieldRows ModL TableC HeadC CodeC WireC
set_option linter.unusedVariables false
set_option linter.unusedSimpArgs false

/-- decode between two rounds. -/
structure DS (w0 w : World) (g bi r : Nat) (max sc : Int) (Oi O B : Option Nat) (lc : List Fld) (b : List Int) (vl : Value) (la : List Fld) : Prop where
  rs : RS w g bi r max sc O B lc b 0
  m : Mod (fun k => k = bi ∨ some k = Oi) w0 w
  rr : w0.heap.size ≤ r
  oc : O = Oi ∨ ∃ k, w0.heap.size ≤ k ∧ O = some k
  own : Own encF w (r + 1) 29 vl la
  ol : ∀ k, vl.ownBlock = some k → O ≠ some k
  B0 : ∀ k, B = some k → k < w0.heap.size ∧ k ≠ bi ∧ some k ≠ Oi
  old : g < w0.heap.size ∧ bi < w0.heap.size ∧ g ≠ bi
  Oi0 : ∀ k, Oi = some k → k < w0.heap.size ∧ k ≠ g
section
variable {w0 w w' : World} {g bi r : Nat} {max sc sc' : Int} {Oi O O' B : Option Nat} {lc lc' : List Fld} {b b' : List Int} {vl vl' : Value} {la la' : List Fld}
theorem DS.below (h : DS w0 w g bi r max sc Oi O B lc b vl la) (hB : Below w.heap.size w w') : DS w0 w' g bi r max sc Oi O B lc b vl la :=
  ⟨h.rs.below hB, h.m.below hB (fun k hk hge => by have := h.m.size; omega), h.rr, h.oc, h.own.of_block (fun k hk => hB.block k (h.own.lt k hk).2), h.ol, h.B0, h.old, h.Oi0⟩
theorem DS.moved (h : DS w0 w g bi r max sc Oi O B lc b vl la) (hR : IsRd w' r B b' 0) (hM : Mod (fun k => k = r) w w') : DS w0 w' g bi r max sc Oi O B lc b' vl la :=
  ⟨h.rs.moved hR hM, h.m.andThen hM (fun i hi e => by have := h.rr; omega), h.rr, h.oc, h.own.of_block (fun k hk => hM.block k (h.own.lt k hk).2 (by have := (h.own.lt k hk).1; omega)), h.ol, h.B0, h.old, h.Oi0⟩
theorem DS.added (h : DS w0 w g bi r max sc Oi O B lc b vl la) (hT : IsTable w' bi bi max lc' sc') (hM : Mod (fun k => k = bi ∨ some k = O) w w') (hO : O' = O ∨ ∃ k, w.heap.size ≤ k ∧ O' = some k) (hA : OwnAt w' bi O') : DS w0 w' g bi r max sc' Oi O' B lc' b vl la := by
  have hs := h.m.size
  have hr := h.rs.rd.lt
  have hrr := h.rr
  have ho := h.old
  have hAl : ∀ k, O' = some k → k < w'.heap.size := by
    obtain ⟨⟨va, a0, aO, -⟩, -⟩ := hT
    obtain ⟨vb, b0, b1⟩ := hA
    obtain rfl : va = vb := Option.some.inj (a0.symm.trans b0)
    exact fun k hk => (aO.lt k (b1.trans hk)).2
  have hkeep : ∀ k, k < w.heap.size → k ≠ bi → O ≠ some k → w'.heap[k]? = w.heap[k]? := fun k hk h1 h2 => hM.block k hk (by rintro (e | e); exact h1 e; exact h2 e.symm)
  have hOold : ∀ k, k < w0.heap.size → some k = O → some k = Oi := by
    intro k hk e
    rcases h.oc with q | ⟨z, hz, q⟩
    · rw [← q]; exact e
    · rw [q] at e; have := Option.some.inj e; omega
  have kg := hkeep g (by omega) ho.2.2 (fun e => by have := hOold g ho.1 e.symm; exact (h.Oi0 g this.symm).2 rfl)
  have kr := hkeep r hr (by omega) h.rs.ap.2.2
  have kB : ∀ k, B = some k → w'.heap[k]? = w.heap[k]? := fun k hk => hkeep k (by have := (h.B0 k hk).1; omega) (h.B0 k hk).2.1 (fun e => (h.B0 k hk).2.2 (hOold k (h.B0 k hk).1 e.symm))
  refine ⟨⟨(World.cell?_of_block (a := ⟨g, 1, none⟩) kg).trans h.rs.c1, hT, hA, h.rs.rd.of_block kr kB hM.size, ⟨h.rs.ap.1, h.rs.ap.2.1, ?_⟩, fun k hk => Nat.lt_of_lt_of_le (h.rs.B0 k hk) hM.size, hAl⟩, ?_, h.rr, ?_, h.own.of_block (fun k hk => hkeep k (h.own.lt k hk).2 (by have := (h.own.lt k hk).1; omega) (h.ol k hk)), ?_, h.B0, h.old, h.Oi0⟩
  · rcases hO with e | ⟨q, hq, e⟩
    · rw [e]; exact h.rs.ap.2.2
    · rw [e]; intro e2; have := Option.some.inj e2; omega
  · refine h.m.andThen hM ?_
    rintro i hi (e | e)
    · exact .inl e
    · exact .inr (hOold i hi e)
  · rcases hO with e | ⟨q, hq, e⟩
    · rw [e]; exact h.oc
    · exact .inr ⟨q, by omega, e⟩
  · intro k hk
    rcases hO with e | ⟨q, hq, e⟩
    · rw [e]; exact h.ol k hk
    · rw [e]; intro e2; have := (h.own.lt k hk).2; have := Option.some.inj e2; omega
theorem DS.appended (h : DS w0 w g bi r max sc Oi O B lc b vl la) (hown : Own encF w' (r + 1) 29 vl' la') (hg : w.grownBy w' vl.ownBlock) (hat : vl'.ownBlock = vl.ownBlock ∨ vl'.ownBlock = some w.heap.size) : DS w0 w' g bi r max sc Oi O B lc b vl' la' := by
  have hs := h.m.size
  have hr := h.rs.rd.lt
  have hrr := h.rr
  have ho := h.old
  have hvl : ∀ k, vl.ownBlock = some k → r + 1 ≤ k := fun k hk => (h.own.lt k hk).1
  have hkeep : ∀ k, k < w.heap.size → vl.ownBlock ≠ some k → w'.heap[k]? = w.heap[k]? := fun k hk h1 => hg.block k hk (fun e => h1 e.symm)
  have klow : ∀ k, k ≤ r → w'.heap[k]? = w.heap[k]? := fun k hk => hkeep k (by omega) (fun e => by have := hvl k e; omega)
  have kO : ∀ k, O = some k → w'.heap[k]? = w.heap[k]? := fun k hk => hkeep k (h.rs.O0 k hk) (fun e => h.ol k e hk)
  obtain ⟨t1, t2⟩ := table_of h.rs.tb h.rs.ow (klow bi (by omega)) kO hg.size
  refine ⟨⟨(World.cell?_of_block (a := ⟨g, 1, none⟩) (klow g (by omega))).trans h.rs.c1, t1, t2, h.rs.rd.of_block (klow r (Nat.le_refl _)) (fun k hk => klow k (by have := (h.B0 k hk).1; omega)) hg.size, h.rs.ap, fun k hk => Nat.lt_of_lt_of_le (h.rs.B0 k hk) hg.size, fun k hk => Nat.lt_of_lt_of_le (h.rs.O0 k hk) hg.size⟩, h.m.grown hg (fun k hk hlt => by have := hvl k hk; omega), h.rr, h.oc, hown, ?_, h.B0, h.old, h.Oi0⟩
  intro k hk
  rcases hat with e | e
  · exact h.ol k (e.symm.trans hk)
  · rw [e] at hk; intro e2; have := h.rs.O0 k e2; have := Option.some.inj hk; omega
end
theorem encB_ne (wh nm : Nat) (fa fb : List UInt8) (l l' : List Fld) (s s' : Int) : (if 0 < wh then (putL wh (7 : Nat) 128, l, s) else ((putL nm (6 : Nat) 64 ++ if nm = 0 then textL fa else []) ++ textL fb, l', s')).1 ≠ [] := by
  by_cases hw : 0 < wh
  · rw [if_pos hw]
    have h := putL_neP wh (7 : Nat) 128
    generalize putL wh (7 : Nat) 128 = A at *
    exact h
  · rw [if_neg hw]
    have h := putL_neP nm (6 : Nat) 64
    generalize putL nm (6 : Nat) 64 = A at *
    intro e
    exact h (List.append_eq_nil_iff.1 (List.append_eq_nil_iff.1 e).1).1
theorem enc1_ne (max : Int) (f : Fld) (l : List Fld) (s : Int) : (enc1 max f l s).1 ≠ [] := encB_ne _ _ _ _ _ _ _ _
/-- How many elements a slice has. -/
def lenV : Value → Nat
  | .slice _ n _ => n
  | _ => 0
set_option maxRecDepth 100000 in
set_option maxHeartbeats 8000000 in
theorem dec_told (v : Value) (l : List Fld) (w : World) (g bo bi : Nat) (max so si : Int) (Oo Oi B : Option Nat) (lo li : List Fld) (bad : Bool) (hC : IsCoder w g bo bi max Oo Oi lo li so si bad)
    (hv : BA.BytesAt w v (encL max l li si).1) (hvB : v.ownBlock = B) (hB0 : ∀ k, B = some k → k < w.heap.size ∧ k ≠ bi ∧ some k ≠ Oi) (hf : fullB l = false) (hlong : longB l = false) (hlen : li.length + l.length ≤ 1000000) :
    Calls Try.prog 24 #[.pointer (some ⟨g, 0, none⟩), v] w fun e w' => ∃ a c lc sc O, e = .returned (.tuple #[.slice a l.length c, .nilIface]) ∧ Hid ((lc, sc) = (encL max l li si).2) ∧ ∃ r b, DS w w' g bi r max sc Oi O B lc b (.slice a l.length c) l := by
  have hfit := fits_of hlong
  have hbd := encL_bd max l li si hfit hlen
  have HFU := Lib.hid (fun k => full_take hfit hf k)
  have HFIT := Lib.hid hfit
  have hgl : g < w.heap.size := block_lt_of_cell hC.c0
  obtain ⟨ab, L, cb, rfl, hL, hcap⟩ : ∃ a L c, v = .slice a L c ∧ (encL max l li si).1.length = L ∧ L ≤ c := by obtain ⟨x, c, e, h1, -⟩ := hv.open; exact ⟨_, _, _, e, rfl, h1⟩
  have hB1 : Below w.heap.size w (w.alloc (.cells #[.slice ab L cb, .nilIface] 72)) := (Below.refl _ _).alloc (Nat.le_refl _) _
  have HD0 : Hid (DS w (w.alloc (.cells #[.slice ab L cb, .nilIface] 72)) g bi w.heap.size max si Oi Oi B li (encL max l li si).1 (.slice none 0 0) []) := by
    have hC2 := hC.old hB1
    refine ⟨⟨hC2.c1, hC2.inn, hC2.oi, ⟨⟨.slice ab L cb, by simp, hv.below hB1, hvB⟩, by simp [errV], by simp, by simp, fun e => by have := (hB0 _ e).1; omega, hbd.1, by have := hbd.2; omega⟩, ⟨by omega, by have := hC.inn.lt; omega, fun e => by have := (hC.hi _ e).2.2; omega⟩, fun k hk => by have := (hB0 k hk).1; have := hB1.size; omega, fun k hk => (hC2.hi k hk).2.2⟩, Mod.ofBelow hB1 (fun k hk hge => by omega), Nat.le_refl _, .inl rfl, Own.nil _ _ _ _, fun k hk => by simp [Value.ownBlock] at hk, hB0, ⟨hgl, hC.inn.lt, hC.ne.2.1⟩, fun k hk => ⟨(hC.hi k hk).2.2, (hC.hi k hk).1⟩⟩
  clear hC hv hvB hB0 hbd hB1 hf hlong hfit hL hcap
  go_enter Try.func24, Try.ntmps24
  go_wp2_with fail
  generalize w.alloc (.cells #[.slice ab L cb, .nilIface] 72) = W1 at *
  obtain ⟨r, hr⟩ : ∃ r, w.heap.size = r := ⟨_, rfl⟩
  rw [hr] at HD0
  rw [hr]
  clear hr
  go_loopw [4] (fun lv wi => ∃ (i : Nat) (a : Option Addr) (c : Nat) (lc : List Fld) (sc : Int) (O : Option Nat) (b : List Int), lv = .slice a i c ∧ i ≤ l.length ∧ Hid (b = (encL max (l.drop i) lc sc).1 ∧ (encL max (l.drop i) lc sc).2 = (encL max l li si).2) ∧ Hid (lc.length ≤ li.length + i) ∧ Hid (DS w wi g bi r max sc Oi O B lc b (.slice a i c) (l.take i))) (fun lv _ => l.length - lenV lv)
  case atStart => exact ⟨0, none, 0, li, si, Oi, (encL max l li si).1, rfl, by omega, ⟨rfl, rfl⟩, Nat.le_refl _, HD0.out⟩
  case round =>
    obtain ⟨i, a, c, lc, sc, O, b, rfl, hi, HEQ, HLE, HD⟩ := hrel
    obtain ⟨vb, c0, hvb, hvbB⟩ := HD.out.rs.rd.c0
    obtain ⟨ab2, n2, cb2, rfl, hn2, hcp2⟩ : ∃ a L c, vb = .slice a L c ∧ b.length = L ∧ L ≤ c := by obtain ⟨x, c, e, h1, -⟩ := hvb.open; exact ⟨_, _, _, e, rfl, h1⟩
    by_cases hin : i < l.length
    · obtain ⟨wo, rfl⟩ : ∃ wo : World, wo = wr := ⟨_, rfl⟩
      obtain ⟨f, hff⟩ : ∃ f, l[i] = f := ⟨_, rfl⟩
      have hst : encL max (l.drop i) lc sc = ((enc1 max f lc sc).1 ++ (encL max (l.drop (i + 1)) (enc1 max f lc sc).2.1 (enc1 max f lc sc).2.2).1, (encL max (l.drop (i + 1)) (enc1 max f lc sc).2.1 (enc1 max f lc sc).2.2).2) := by rw [List.drop_eq_getElem_cons hin, hff]; rfl
      rw [hst] at HEQ
      have HFZ : Hid (f.1.size ≤ 400 ∧ f.2.size ≤ 400) := HFIT.out f (by rw [← hff]; exact List.getElem_mem hin)
      have HTK : Hid (l.take i ++ [f] = l.take (i + 1)) := by
        show _ = _
        rw [List.take_add_one, List.getElem?_eq_getElem hin, hff]
        rfl
      have HE1 := Lib.hid (enc1_len1 max f lc sc)
      clear hst hff
      obtain ⟨fa, fb⟩ := f
      have HLF := Lib.hid (LF.start HD.out.rs 29)
      have HBa : Hid (Below wo.heap.size wo (wo.alloc (.cells #[.string ⟨#[]⟩, .string ⟨#[]⟩] 29))) := (Below.refl _ _).alloc (Nat.le_refl _) _
      have HFO : Hid (wo.heap.size ≠ bi ∧ O ≠ some wo.heap.size) := ⟨by have := HD.out.rs.tb.lt; omega, fun e => by have := HD.out.rs.O0 _ e; omega⟩
      have hneb : b ≠ [] := by
        rw [HEQ.out.1]
        dsimp only
        intro e
        have := (List.append_eq_nil_iff.1 e).1
        exact enc1_ne _ _ _ _ this
      obtain ⟨a9, c9, e9, -, -, -, hel⟩ := hvb.open
      simp only [Value.slice.injEq] at e9
      obtain ⟨rfl, -, rfl⟩ := e9
      obtain ⟨bb, off, rfl, hbb, hz0⟩ := hel 0 (List.length_pos_iff.2 hneb)
      rw [Nat.add_zero] at hz0
      obtain ⟨z, hz⟩ : ∃ z, b.getD 0 0 = z := ⟨_, rfl⟩
      rw [hz] at hz0
      have hn1 : (0 : Int) < (n2 : Int) := by have := List.length_pos_iff.2 hneb; omega
      have q0 := (HBa.out.cell (p := ⟨bb, off, none⟩) hbb).trans hz0
      have q1 := (HBa.out.cell (p := ⟨r, 0, none⟩) HD.out.rs.rd.lt).trans c0
      clear hel hvb hz0 hneb hvbB hbb
      have HEV : Hid (errV 0 = .nilIface) := rfl
      have HN2 := Lib.hid hn2
      clear hn2
      obtain ⟨⟨E, L', S'⟩, hE⟩ : ∃ X, enc1 max (fa, fb) lc sc = X := ⟨_, rfl⟩
      rw [hE] at HEQ HE1
      obtain ⟨rest, hrest⟩ : ∃ R, (encL max (l.drop (i + 1)) L' S').1 = R := ⟨_, rfl⟩
      have hbe : b = E ++ rest := by rw [← hrest]; exact HEQ.out.1
      have HRS := Lib.hid hrest
      have HNX : Hid ((encL max (l.drop (i + 1)) L' S').2 = (encL max l li si).2) := HEQ.out.2
      have HZ : Hid ((E ++ rest).getD 0 0 = z) := by rw [← hbe]; exact hz
      have HLC : Hid (lc.length ≤ 1000000) := by have := HLE.out; show _ ≤ _; omega
      have HENC := Lib.hid hE
      have HLL1 : Hid (L'.length ≤ lc.length + 1) := HE1.out
      clear HEQ hrest hz hE HE1
      subst hbe
      go_upto_block 2 with fail
      go_cut [4, 5, 9, 10, 19] from 29 to 121 (fun x4 _ _ _ _ wx => x4 = .slice a i c ∧ Hid ((wx.cell? ⟨wo.heap.size, 0, none⟩ = some (.string fa) ∧ wx.cell? ⟨wo.heap.size, 1, none⟩ = some (.string fb)) ∧ ∃ O', DS w wx g bi r max S' Oi O' B L' rest (.slice a i c) (l.take i)))
      case first => as_aux_lemma =>
        by_cases hw : 0 < fst (sameF (fa, fb)) (allL lc)
        · obtain ⟨k, hk⟩ : ∃ k, fst (sameF (fa, fb)) (allL lc) = k + 1 := ⟨fst (sameF (fa, fb)) (allL lc) - 1, by omega⟩
          have h1 := enc1_whole (max := max) (sz := sc) hw
          have hfl := fst_le (sameF (fa, fb)) (allL lc)
          have hal : (allL lc).length = 12 + lc.length := by unfold allL; rw [List.length_append]; rfl
          have HKB : Hid (k < 12 + lc.length) := by show _ < _; omega
          obtain ⟨hkl, hget⟩ := whole_at hk
          rw [HENC.out, hk] at h1
          simp only [Prod.mk.injEq] at h1
          obtain ⟨rfl, rfl, rfl⟩ := h1
          have hzz := head_whole (k + 1) rest
          rw [HZ.out] at hzz
          have hnum := num_whole k (by have := HKB.out; have := HLC.out; omega) rest
          have HNU := Lib.hid (fun W (hW : IsRd W r B (putL ((k + 1 : Nat) : Int) (7 : Nat) 128 ++ rest) 0) => rnum_any hW 7 (by decide))
          rw [hnum] at HNU
          simp only at HNU
          have HGT : Hid (∀ W, IsTable W bi bi max L' S' → Calls Try.prog 6 #[.pointer (some ⟨bi, 0, none⟩), .int .i64 ((k : Int) + 1)] W fun e w' => e = .returned (.tuple #[.agg #[.string fa, .string fb], .nilIface]) ∧ Below W.heap.size W w') := fun W hT => by
            have h := TableC.get_at hT HLC.out k HKB.out
            rwa [hget] at h
          generalize putL ((k + 1 : Nat) : Int) (7 : Nat) 128 = P at *
          clear hw hk hfl hal hkl hget hnum HZ HENC
          have hz1 : (128 : Int) ≤ z := hzz.1
          have hne : r ≠ wo.heap.size := by have := HD.out.rs.rd.lt; omega
          have hne2 : wo.heap.size ≠ r := fun e => hne e.symm
          have p0 := HLF.out.c0
          have p1 := HLF.out.c1
          have pf0 := HLF.out.f0
          have pf1 := HLF.out.f1
          clear q0 q1 c0 hzz
          go_wp2_with (first
            | (go_at_call 30; refine (HNU.out _ HLF.out.rd).mono ?_; rintro e w2 ⟨rfl, hR2, hM2⟩; have HL2 := Lib.hid (HLF.out.moved hR2 hM2); have RR := Lib.hid (HD.out.rs.moved hR2 HL2.out.m); have y1 := RR.out.c1; have y2 := RR.out.rd.c1; have y3 := RR.out.rd.f1; rw [HEV.out] at y2; clear hR2 hM2 p0 p1 pf0 pf1)
            | (go_at_call 6; (with_reducible refine (HGT.out _ RR.out.tb).mono ?_); rintro e w3 ⟨rfl, hB3⟩; have HL3 := Lib.hid (HL2.out.below hB3); have x0 := HL3.out.c0; have x1 := HL3.out.c1; have xf0 := HL3.out.f0; have xf1 := HL3.out.f1; have z2 := HL3.out.rd.c1; rw [HEV.out] at z2; have z3 := HL3.out.rd.f1; clear hB3 y1 y2 y3)
            | fail)
          have HL4 := Lib.hid (((HL3.out.set0 fa).set1 fb).err 0)
          go_meet
          exact ⟨rfl, ⟨HL4.out.c0, HL4.out.c1⟩, O, HD.out.moved HL4.out.rd HL4.out.m⟩
        · obtain ⟨X, hX⟩ : ∃ X, addL max lc sc (fa, fb) = X := ⟨_, rfl⟩
          obtain ⟨nm, hnm⟩ : ∃ n, fst (sameN (fa, fb)) (allL lc) = n := ⟨_, rfl⟩
          have h1 : enc1 max (fa, fb) lc sc = ((putL (nm : Nat) (6 : Nat) 64 ++ if nm = 0 then textL fa.data.toList else []) ++ textL fb.data.toList, X.1, X.2.1) := by
            unfold enc1
            rw [if_neg hw, hX, hnm]
          rw [HENC.out] at h1
          simp only [Prod.mk.injEq] at h1
          obtain ⟨rfl, rfl, rfl⟩ := h1
          have hzz : 64 ≤ z ∧ z ≤ 127 := by
            rw [← HZ.out]
            simp only [List.append_assoc]
            exact head_name nm _
          have hlit := lit_told fa fb HFZ.out.1 HFZ.out.2 lc HLC.out rest nm hnm
          have HLT := Lib.hid (fun W (hW : RS W g bi r max sc O B lc (((putL (nm : Nat) (6 : Nat) 64 ++ if nm = 0 then textL fa.data.toList else []) ++ textL fb.data.toList) ++ rest) 0) => literal_any hW HLC.out 6 (by decide))
          rw [hlit] at HLT
          simp only [fv] at HLT
          have HXX := Lib.hid hX
          generalize ((putL (nm : Nat) (6 : Nat) 64 ++ if nm = 0 then textL fa.data.toList else []) ++ textL fb.data.toList) = P at *
          clear hw hnm hlit hX HZ HENC
          have hz1 : ¬ (128 : Int) ≤ z := by omega
          have hz2 : (64 : Int) ≤ z := by omega
          have HRS1 := Lib.hid (HD.out.rs.below HBa.out)
          have p0 := HLF.out.c0
          have p1 := HLF.out.c1
          have pf0 := HLF.out.f0
          have pf1 := HLF.out.f1
          clear q0 q1 c0 hzz
          go_upto_region 13 with (first
            | (go_at_call 31; refine (HLT.out _ HRS1.out).mono ?_; rintro e w2 ⟨rfl, hR2, hM2⟩; have HL2 := Lib.hid (HLF.out.moved hR2.rd hM2); have y0 := HL2.out.c0; have y1 := HL2.out.c1; have yf0 := HL2.out.f0; have yf1 := HL2.out.f1; have HL3 := Lib.hid ((HL2.out.set0 fa).set1 fb); have z2 := HL3.out.rd.c1; rw [HEV.out] at z2; clear hR2 hM2 p0 p1 pf0 pf1)
            | fail)
          have HL3 := Lib.hid ((HL2.out.set0 fa).set1 fb)
          have HD3 := Lib.hid (HD.out.moved HL3.out.rd HL3.out.m)
          obtain ⟨w3, hw3⟩ : ∃ W, (w2.setCell ⟨wo.heap.size, 0, none⟩ (.string fa)).setCell ⟨wo.heap.size, 1, none⟩ (.string fb) = W := ⟨_, rfl⟩
          rw [hw3] at HL3 HD3 ⊢
          clear hw3
          have HDd := Lib.hid (HD3.out.below (w' := w3.drew) (Below.refl _ _).drew)
          have hS1 : w3.drew.cell? ⟨g, 1, none⟩ = some (.pointer (some ⟨bi, 0, none⟩)) ∧ w3.drew.cell? ⟨wo.heap.size, 0, none⟩ = some (.string fa) ∧ w3.drew.cell? ⟨wo.heap.size, 1, none⟩ = some (.string fb) := ⟨HDd.out.rs.c1, HL3.out.c0, HL3.out.c1⟩
          have HFW : Hid (wo.heap.size < w3.heap.size) := HL3.out.FW
          clear y0 y1 yf0 yf1 z2
          go_region_held3 (fun w' => w'.cell? ⟨g, 1, none⟩ = some (.pointer (some ⟨bi, 0, none⟩)) ∧ w'.cell? ⟨wo.heap.size, 0, none⟩ = some (.string fa) ∧ w'.cell? ⟨wo.heap.size, 1, none⟩ = some (.string fb)) (first | exact hS1 | exact hS2)
            (first
            | (go_at_call 8; have HCT := add_own HDd.out.rs.tb (fa, fb) HLC.out O HDd.out.rs.ow; rw [HXX.out] at HCT; simp only [fv] at HCT; (with_reducible refine HCT.mono ?_); clear HCT; rintro e w9 ⟨rfl, hT9, hM9, O9, hO9, hA9⟩; have HD9 := Lib.hid (HDd.out.added hT9 hM9 hO9 hA9); have kF : w9.heap[wo.heap.size]? = w3.drew.heap[wo.heap.size]? := hM9.block _ HFW.out (by rintro (e | e); exact HFO.out.1 e; exact HFO.out.2 e.symm); have hS2 : w9.cell? ⟨g, 1, none⟩ = some (.pointer (some ⟨bi, 0, none⟩)) ∧ w9.cell? ⟨wo.heap.size, 0, none⟩ = some (.string fa) ∧ w9.cell? ⟨wo.heap.size, 1, none⟩ = some (.string fb) := ⟨HD9.out.rs.c1, (World.cell?_of_block (a := ⟨wo.heap.size, 0, none⟩) kF).trans hS1.2.1, (World.cell?_of_block (a := ⟨wo.heap.size, 1, none⟩) kF).trans hS1.2.2⟩; clear hT9 hM9 hO9 hA9 kF))
          clear hS1
          go_wp2_with fail
          go_meet
          exact ⟨rfl, ⟨hS2.2.1, hS2.2.2⟩, O9, HD9.out⟩
      obtain ⟨w5, rfl⟩ : ∃ W : World, W = wc := ⟨_, rfl⟩
      obtain ⟨rfl, HCU⟩ := hcut
      obtain ⟨⟨p0, p1⟩, O5, hD5⟩ := HCU.out
      have HD5 := Lib.hid hD5
      clear hD5 HCU q0 q1 c0 HD HLF HBa HFO HENC HZ HN2
      have y1 := HD5.out.rs.rd.c1
      rw [HEV.out] at y1
      have HOWN := Lib.hid HD5.out.own
      have hlt5 : Hid (l.length ≤ 1000000) := by show _ ≤ _; omega
      have HA := Lib.hid (Own.lit (E := encF) (b := w5.heap.size) (e := 29) w5 #[.string fa, .string fb] [(fa, fb)] (Nat.le_refl _) (by simp) rfl).at_
      have HB5 : Hid (Below w5.heap.size w5 (w5.alloc (.cells #[.string fa, .string fb] 29))) := (Below.refl _ _).alloc (Nat.le_refl _) _
      have HDA := Lib.hid (HD5.out.below HB5.out)
      have HTL : Hid ((l.take i).length = i) := by show _ = _; rw [List.length_take]; omega
      have HTL1 : Hid ((l.take (i + 1)).length = i + 1) := by show _ = _; rw [List.length_take]; omega
      go_wp2_with (first
        | (at_builtin; refine wpList_append elemF rfl _ _ rfl (r + 1) (.slice a i c) rfl HDA.out.own _ [(fa, fb)] rfl HA.out (by have := hlt5.out; rw [HTL.out]; simp; omega) (by have := HDA.out.rs.rd.lt; omega) ?_; intro v6 w6 hown6 hB6 hg6 hat6; rw [HTK.out] at hown6; obtain ⟨a6, c6, e6, -⟩ := hown6.slice; rw [HTL1.out] at e6; subst e6; have HD6 := Lib.hid (HDA.out.appended hown6 hg6 hat6); clear hown6 hB6 hg6 hat6)
        | (go_at_call 21; have HCT := full_any _ _ _ HD6.out.own.at_; rw [HFU.out] at HCT; refine HCT.mono ?_; clear HCT; rintro e w7 ⟨rfl, hB7⟩; have HD7 := Lib.hid (HD6.out.below hB7); clear hB7)
        | fail)
      refine ⟨⟨i + 1, a6, c6, L', S', O5, rest, rfl, by omega, ⟨HRS.out.symm, HNX.out⟩, ?_, HD7.out⟩, ?_⟩
      · have := HLE.out; have := HLL1.out; show _ ≤ _; omega
      · simp only [lenV]; omega
    · obtain rfl : i = l.length := by omega
      have hq := HEQ.out
      rw [List.drop_length] at hq
      have hb0 : b = [] := hq.1
      subst hb0
      have hn0 : n2 = 0 := hn2.symm
      subst hn0
      have HV := Lib.hid hvb
      clear hvb hvbB hn2 hq
      go_wp2_with fail
      go_ret2
      refine ⟨_, _, lc, sc, O, rfl, ?_, r, [], ?_⟩
      · have h := HEQ.out.2
        rw [List.drop_length] at h
        exact h
      · have h := HD.out
        rwa [List.take_length] at h
end Go.Proofs.Ytbbhinhledkceaa.HeadF
