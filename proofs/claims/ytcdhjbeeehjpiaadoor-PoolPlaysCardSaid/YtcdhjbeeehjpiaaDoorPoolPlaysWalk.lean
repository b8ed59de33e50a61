/-
  The walk of the law PoolPlays: for every steps it returns true and writes nothing that was there.
  Conditions: errors.errorType starts as the program's text lays it.
-/
import Derived.Test.YtcdhjbeeehjpiaaDoorPoolInts
import Derived.Test.YtcdhjbeeehjpiaaDoorArgs
import Derived.Deep.CutBlock
import Derived.Deep.RegionHeld3
namespace Go.Proofs.YtcdhjbeeehjpiaaDoor.WalkPoolPlays
open Go.RowKit MapsL ModL RowsK RowsM Back LineC PoolC PoolR PoolX
set_option linter.unusedSimpArgs false
set_option linter.unusedVariables false

def nm (i : Nat) : ByteArray := ([⟨#[97]⟩, ⟨#[98]⟩, ⟨#[99]⟩, ⟨#[]⟩, ⟨#[65, 45, 49]⟩] : List ByteArray).getD i ⟨#[]⟩
theorem nm_len (i : Nat) : (nm i).size ≤ maxLen := by
  unfold nm
  rcases i with _ | _ | _ | _ | _ | i <;> simp [maxLen, ByteArray.size]
def Nm (W : World) (nb : Nat) : Prop := ∀ i, i < 5 → W.cell? ⟨nb, i, none⟩ = some (.string (nm i))
theorem Nm.same {W W' : World} {nb : Nat} (h : Nm W nb) (hb : W'.heap[nb]? = W.heap[nb]?) : Nm W' nb := fun i hi => (World.cell?_of_block (a := ⟨nb, i, none⟩) hb).trans (h i hi)
section
variable {w W W' : World} {E : (Nat → Prop) × World} {pb pm q : Nat} {many last now last' now' : Int} {B B' : List (Int × ByteArray)} {L L' : List Link} {last2 now2 turn2 : Int} {l2 : List RL}
theorem JJ.fresh (h : JJ w W E pb pm q many last now B L last2 now2 turn2 l2) (hB : Below W.heap.size W W') (D : Nat → Prop) (hD : ∀ k, D k → W.heap.size ≤ k ∧ k < W'.heap.size) : JJ w W' (fun k => E.1 k ∨ D k, W') pb pm q many last now B L last2 now2 turn2 l2 := by
  obtain ⟨rv, h1, h2, h3, h4, h5⟩ := id h
  refine (h.refE D (fun rv0 h0 => refO_val h2 h0) (Mod.ofBelow hB (fun k h1 h2 => absurd h2 (by omega))) (.inl rfl) (h2.below hB) (fun k hk => ⟨(hD k hk).1, (hD k hk).2, fun e => ?_⟩)).1
  have := (h2.own.lt k e).2
  have := (hD k hk).1
  omega
theorem JJ.blt (h : JJ w W E pb pm q many last now B L last2 now2 turn2 l2) {k : Nat} (hk : E.1 k) : k < W.heap.size := by
  obtain ⟨rv, ⟨v, g1, g2, g3, g4⟩, _⟩ := h
  exact (g4 k (.inr (.inr hk))).2.1
end
def SS (w W : World) (pb pm q nb : Nat) (many : Int) (k : Nat) (last now : Int) (B : List (Int × ByteArray)) (P : List (Link × Int)) (turn : Int) (l : List RL) : Prop :=
  JJ w W (fun x => x = nb, W) pb pm q many last now B (P.map (·.1)) last now turn l ∧ Rel last turn B P l ∧ (0 ≤ last ∧ last ≤ k) ∧ (0 ≤ turn ∧ turn ≤ k) ∧ (0 ≤ now ∧ now ≤ 1000000) ∧ (l.length : Int) ≤ many ∧ Nm W nb
/-- What is there between two steps. -/
def St (w W : World) (pb pm q nb : Nat) (many : Int) (k : Nat) : Prop :=
  ∃ last now B P turn l, SS w W pb pm q nb many k last now B P turn l
/-- From the end of a step, with what is kept apart. -/
theorem ss_of {w W W0 : World} {D : Nat → Prop} {pb pm q nb : Nat} {many : Int} {k : Nat} {last now : Int} {B : List (Int × ByteArray)} {P : List (Link × Int)} {turn : Int} {l : List RL}
    (h : JJ w W (D, W0) pb pm q many last now B (P.map (·.1)) last now turn l) (hD : D nb) (hR : Rel last turn B P l) (h1 : 0 ≤ last ∧ last ≤ k) (h2 : 0 ≤ turn ∧ turn ≤ k) (h3 : 0 ≤ now ∧ now ≤ 1000000) (h4 : ((B.length + P.length : Nat) : Int) ≤ many) (hN : Nm W0 nb) : SS w W pb pm q nb many k last now B P turn l :=
  ⟨h.keep _ (fun z hz => by subst hz; exact hD), hR, h1, h2, h3, by have := hR.len; omega, hN.same (h.same nb hD)⟩
theorem idx5 (x : Int) : (-4 ≤ x.tmod 5 ∧ x.tmod 5 ≤ 4) ∧ ∃ j : Nat, (x.tmod 5 + 5).tmod 5 = (j : Int) ∧ j < 5 := by
  have h1 : -4 ≤ x.tmod 5 ∧ x.tmod 5 ≤ 4 := by
    rcases Int.le_total 0 x with h | h
    · rw [Int.tmod_eq_emod_of_nonneg h]; omega
    · have : x.tmod 5 = -((-x).tmod 5) := by rw [Int.neg_tmod, Int.neg_neg]
      rw [this, Int.tmod_eq_emod_of_nonneg (by omega)]; omega
  refine ⟨h1, ((x.tmod 5 + 5) % 5).toNat, ?_, by omega⟩
  rw [Int.tmod_eq_emod_of_nonneg (by omega)]
  omega
theorem drew_below (W : World) : Below W.heap.size W W.drew := ⟨rfl, rfl, rfl, Nat.le_refl _, fun _ _ => rfl⟩
/-- The counts behind n links. -/
def cB (l : List RL) (n : Nat) : Int := ((l.take n).filter isB).length
def cI (t : ByteArray) (l : List RL) (n : Nat) : Int := ((l.take n).filter (fun x => isI x && (x.to.toList == t.toList))).length
theorem take_one (l : List RL) (n : Nat) (hn : n < l.length) : l.take (n + 1) = l.take n ++ [l.getD n default] := by
  rw [List.take_add_one, List.getElem?_eq_getElem hn, List.getD_eq_getElem?_getD, List.getElem?_eq_getElem hn]; rfl
theorem cB_step (l : List RL) (n : Nat) (hn : n < l.length) : cB l (n + 1) = cB l n + if (l.getD n default).busy then 1 else 0 := by
  unfold cB
  rw [take_one l n hn, List.filter_append, List.length_append]
  generalize l.getD n default = z
  cases h : z.busy <;> simp [isB, h]
theorem cI_step (t : ByteArray) (l : List RL) (n : Nat) (hn : n < l.length) : cI t l (n + 1) = cI t l n + if (l.getD n default).busy = false ∧ ((l.getD n default).to.toList == t.toList) = true then 1 else 0 := by
  unfold cI
  rw [take_one l n hn, List.filter_append, List.length_append]
  generalize l.getD n default = z
  cases h : z.busy <;> cases h2 : (z.to.toList == t.toList) <;> simp [isI, h, h2]
theorem St.base {w W : World} {pb pm q nb : Nat} {many : Int} {k : Nat} (h : St w W pb pm q nb many k) : Below w.heap.size w W := by
  obtain ⟨_, _, _, _, _, _, h1, _⟩ := h
  exact h1.base
theorem rel_nil : Rel 0 0 [] [] [] := ⟨by simp, by simp, by simp, by simp, by simp, by simp⟩
theorem st_new {w w1 : World} {pb pm : Nat} {many : Int} (h : PS w w1 (fun _ => False, w1) pb pm many 0 0 [] []) (hm : 1 ≤ many ∧ many ≤ 8) {W : World} (hB : Below w1.heap.size w1 W) (hs : W.heap.size = w1.heap.size + 2)
    (h0 : W.cell? ⟨w1.heap.size, 0, none⟩ = some (.int .i64 many)) (h1 : W.cell? ⟨w1.heap.size, 1, none⟩ = some (.int .i64 0)) (h2 : W.cell? ⟨w1.heap.size, 2, none⟩ = some (.int .i64 0)) (h3 : W.cell? ⟨w1.heap.size, 3, none⟩ = some (.int .i64 0)) (h4 : W.cell? ⟨w1.heap.size, 4, none⟩ = some (.slice none 0 0)) (hf : ∀ j, W.frozen? ⟨w1.heap.size, j, none⟩ = false) (hn : Nm W (w1.heap.size + 1)) : St w W pb pm w1.heap.size (w1.heap.size + 1) many 0 := by
  refine ⟨0, 0, [], [], 0, [], ⟨.slice none 0 0, h.step (Mod.ofBelow hB (fun k h1 h2 => absurd h2 (by omega))) (fun k hk => ?_), ⟨h0, h1, h2, h3, h4, hf, RowsK.Own.nil _ _ _ _⟩, (fun k hk => by cases hk), (by simp), fun k _ => rfl⟩, rel_nil, by simp, by simp, by simp, by simp; omega, hn⟩
  rcases hk with rfl | hk | rfl
  · exact ⟨by omega, .inr (Nat.le_refl _)⟩
  · cases hk
  · exact ⟨by omega, .inr (by omega)⟩
section
variable {w W : World} {pb pm q nb : Nat} {many : Int} {k : Nat} {last now : Int} {B : List (Int × ByteArray)} {P : List (Link × Int)} {turn : Int} {l : List RL}
theorem SS.st (h : SS w W pb pm q nb many k last now B P turn l) : St w W pb pm q nb many k := ⟨_, _, _, _, _, _, h⟩
theorem ss_busy (h : SS w W pb pm q nb many k last now B P turn l) : Calls Tryd.prog 12 #[.pointer (some ⟨pb, 0, none⟩)] W fun e w' => e = .returned (.int .i64 B.length) ∧ W = w' := by
  obtain ⟨⟨rv, h1, _⟩, _⟩ := h
  exact busy_ps h1
theorem ss_idle (h : SS w W pb pm q nb many k last now B P turn l) (hm : many ≤ 8) (t : ByteArray) : Calls Tryd.prog 13 #[.pointer (some ⟨pb, 0, none⟩), .string t] W fun e w' => e = .returned (.int .i64 ((P.map (·.1)).filter (isTo t)).length) ∧ SS w w' pb pm q nb many k last now B P turn l := by
  obtain ⟨hJ, hR, h1, h2, h3, h4, h5⟩ := h
  have hlen := hR.len
  refine (pool_side hJ (fun F hp => idle_ps hp t (by rw [List.length_map]; omega))).mono ?_
  rintro e w' ⟨he, hj⟩
  exact ⟨he, hj.keep _ (fun _ h => h), hR, h1, h2, h3, h4, h5.same (hj.same nb rfl)⟩
theorem cB_bd (l : List RL) (n : Nat) : 0 ≤ cB l n ∧ cB l n ≤ n := by
  unfold cB
  have h1 := List.length_filter_le isB (l.take n)
  have h2 := List.length_take_le n l
  omega
theorem cI_bd (t : ByteArray) (l : List RL) (n : Nat) : 0 ≤ cI t l n ∧ cI t l n ≤ n := by
  unfold cI
  have h1 := List.length_filter_le (fun x : RL => isI x && (x.to.toList == t.toList)) (l.take n)
  have h2 := List.length_take_le n l
  omega
theorem ss_counts (h : SS w W pb pm q nb many k last now B P turn l) (t : ByteArray) : cB l l.length = (B.length : Int) ∧ cI t l l.length = (((P.map (·.1)).filter (isTo t)).length : Int) := by
  obtain ⟨h1, h2⟩ := h.2.1.counts t
  unfold cB cI
  rw [List.take_length, ← h1, ← h2]
  exact ⟨rfl, rfl⟩
theorem ss_ref (h : SS w W pb pm q nb many k last now B P turn l) : ∃ rv, RefO W q many last now turn rv l := by
  obtain ⟨⟨rv, _, h2, _⟩, _⟩ := h
  exact ⟨rv, h2⟩
end
set_option maxRecDepth 100000 in
set_option maxHeartbeats 8000000 in
theorem walk (many : Int) (v0 : Value) (rows : List (List Int)) (w : World) (bm : Args.I64 many) (hr : Args.IntRowsAt w v0 rows) (hg : w.cell? ⟨0, 0, none⟩ = some (.iface 178 (.agg #[.pointer (some ⟨9, 25, none⟩)]))) :
    Calls Tryd.prog 5 #[.int .i64 many, v0] w fun e w' => e = .returned (.bool true) ∧ Below w.heap.size w w' := by
  have HGc : Hid (∀ W', Below w.heap.size w W' → W'.cell? ⟨0, 0, none⟩ = some (.iface 178 (.agg #[.pointer (some ⟨9, 25, none⟩)]))) := fun W' hB => (hB.cell (p := ⟨0, 0, none⟩) (block_lt_of_cell hg)).trans hg
  obtain ⟨a1, cap, rfl, hcap, hcap2, hel⟩ := hr.open
  have HEL := Lib.hid hel
  clear hel hr hg
  obtain ⟨bm1, bm2⟩ := bm
  go_enter Tryd.func5, Tryd.ntmps5
  by_cases hm : 1 ≤ many ∧ many ≤ 8
  · have HM := Lib.hid hm
    obtain ⟨hm1, hm2⟩ := hm
    go_wp2_with (first
      | (go_at_call 8; (with_reducible refine (new_ps (w0 := w) (Below.refl _ _) HM.out).mono ?_); rintro e w1 ⟨rfl, hp⟩; have H1 := Lib.hid hp; clear hp)
      | (go_at_call 10; (with_reducible refine (ToldC.error_any .nil 0 _ (HGc.out _ H1.out.base)).mono ?_); rintro e w2 ⟨rfl, hB⟩; have H2 := Lib.hid (H1.out.below hB).rebase; clear hB H1))
    have HST : Hid (St w ((w2.alloc (.cells #[.int .i64 many, .int .i64 0, .int .i64 0, .int .i64 0, .slice none 0 0] 43)).alloc (.cells #[.string ⟨#[97]⟩, .string ⟨#[98]⟩, .string ⟨#[99]⟩, .string ⟨#[]⟩, .string ⟨#[65, 45, 49]⟩] 9)) (w.heap.size + 1) w.heap.size w2.heap.size (w2.heap.size + 1) many 0) := by
      have hBa := ((Below.refl w2.heap.size w2).alloc (Nat.le_refl _) (.cells #[.int .i64 many, .int .i64 0, .int .i64 0, .int .i64 0, .slice none 0 0] 43)).alloc (by simp) (.cells #[.string ⟨#[97]⟩, .string ⟨#[98]⟩, .string ⟨#[99]⟩, .string ⟨#[]⟩, .string ⟨#[65, 45, 49]⟩] 9)
      exact st_new H2.out HM.out hBa (by simp) (by simp [go_sem]) (by simp [go_sem]) (by simp [go_sem]) (by simp [go_sem]) (by simp [go_sem]) (by intro j; simp [go_sem]) (by intro i hi; rcases i with _ | _ | _ | _ | _ | i <;> first | (simp [go_sem, nm]; done) | omega)
    obtain ⟨pb, hpb⟩ : ∃ pb, w.heap.size + 1 = pb := ⟨_, rfl⟩
    obtain ⟨pm, hpm⟩ : ∃ pm, w.heap.size = pm := ⟨_, rfl⟩
    obtain ⟨q, hq⟩ : ∃ q, w2.heap.size = q := ⟨_, rfl⟩
    obtain ⟨nb, hnb⟩ : ∃ nb, w2.heap.size + 1 = nb := ⟨_, rfl⟩
    rw [hpb, hpm, hnb, hq] at HST
    have HST0 := HST
    clear HST H2
    rw [hpb, hnb, hq]
    clear hpb hpm hnb
    go_loopw [8, 11] (fun tv iv wr => ∃ k : Nat, tv = .bool true ∧ iv = .int .i64 k ∧ k ≤ rows.length ∧ k ≤ 80 ∧ Hid (St w wr pb pm q nb many k)) (fun _ iv _ => 80 - (intOf iv).toNat)
    case atStart => exact ⟨0, rfl, rfl, Nat.zero_le _, Nat.zero_le _, HST0⟩
    case round =>
      obtain ⟨k, rfl, rfl, hk1, hk2, HS⟩ := hrel
      have hB := HS.out.base
      by_cases hin : k < rows.length ∧ k < 80
      · obtain ⟨h1, h2⟩ := hin
        obtain ⟨b, off, x, rfl, hb, hv, hx⟩ := HEL.out k h1
        obtain ⟨ax, capx, rfl, hcx, hcx2, helx⟩ := hx.open
        have HX := Lib.hid helx
        have hI := Lib.hid hx.2
        clear helx hx
        have hv' := (hB.cell (p := ⟨b, off + k, none⟩) hb).trans hv
        generalize rows.getD k [] = r at *
        clear hv
        have hszr := hB.size
        obtain ⟨wo, rfl⟩ : ∃ wo : World, wo = wr := ⟨_, rfl⟩
        go_upto_block 2 with fail
        go_cut [13] from 54 to 220 (fun _ wc => Below wo.heap.size wo wc ∧ wo.heap.size < wc.heap.size ∧ wc.cell? ⟨wo.heap.size, 0, none⟩ = some (.int .i64 (r.getD 0 0)) ∧ wc.cell? ⟨wo.heap.size, 1, none⟩ = some (.int .i64 (r.getD 1 0)) ∧ wc.cell? ⟨wo.heap.size, 2, none⟩ = some (.int .i64 (r.getD 2 0)))
        case first =>
          go_wp2_with fail
          go_loopw [13] (fun jv wi => ∃ (j : Nat), jv = .int .i64 j ∧ j ≤ r.length ∧ j ≤ 3 ∧ Below wo.heap.size wo wi ∧ wo.heap.size < wi.heap.size ∧ Hid (∀ t, t < 3 → wi.frozen? ⟨wo.heap.size, t, none⟩ = false ∧ wi.cell? ⟨wo.heap.size, t, none⟩ = some (.int .i64 (Args.cp r j t)))) (fun jv _ => 3 - (intOf jv).toNat)
          case atStart => exact ⟨0, rfl, by omega, by omega, (Below.refl _ _).alloc (Nat.le_refl _) _, by simp, by intro t ht; rcases t with _ | _ | _ | t <;> first | (simp [Args.cp]; done) | omega⟩
          case round =>
            obtain ⟨j, rfl, hj1, hj2, hBi, hsi, HD⟩ := hrel
            have hv2 := (hBi.cell (p := ⟨b, off + k, none⟩) (by simp only; omega)).trans hv'
            by_cases hj : j < r.length ∧ j < 3
            · obtain ⟨g1, g2⟩ := hj
              obtain ⟨bx, ox, rfl, hbx, hvx, hix⟩ := HX.out j g1
              have hvx2 := (hBi.cell (p := ⟨bx, ox + j, none⟩) (by simp only; omega)).trans ((hB.cell (p := ⟨bx, ox + j, none⟩) hbx).trans hvx)
              clear hix hvx
              obtain ⟨hfj, hcj⟩ := HD.out j g2
              obtain ⟨vj, hvj⟩ : ∃ vj, r.getD j 0 = vj := ⟨_, rfl⟩
              rw [hvj] at hvx2
              have HVJ := Lib.hid hvj
              clear hvj
              go_wp2
              go_roundw
              case rel => exact ⟨j + 1, by go_num, by omega, by omega, hBi.setCell (Nat.le_refl _) _, by simp; omega, fun t ht => by
                obtain ⟨f1, c1⟩ := HD.out t ht
                by_cases e : t = j
                · subst e; exact ⟨by simp [go_sem, f1], by rw [World.cell?_setCell_same _ _ _ hcj, Args.cp_step, if_pos rfl, HVJ.out]⟩
                · exact ⟨by simp [go_sem, f1], by rw [World.cell?_setCell_other _ _ _ _ (by simp <;> omega), c1, Args.cp_step, if_neg e]⟩⟩
              case measure => simp [intOf]; omega
            · have d0 := (HD.out 0 (by omega)).2
              have d1 := (HD.out 1 (by omega)).2
              have d2 := (HD.out 2 (by omega)).2
              rw [Args.cp_full _ _ _ (by omega)] at d0 d1 d2
              have D := Lib.hid (And.intro d0 (And.intro d1 d2))
              clear d0 d1 d2
              go_wp2
              all_goals go_meet
              all_goals exact ⟨hBi, hsi, D.out.1, D.out.2.1, D.out.2.2⟩
        case rest =>
          obtain ⟨hBi, hsi, d0, d1, d2⟩ := hcut
          have b1 := Args.getD_i64 hI.out 1
          have b2 := Args.getD_i64 hI.out 2
          generalize r.getD 0 0 = op at *
          generalize r.getD 1 0 = x at *
          generalize r.getD 2 0 = y at *
          obtain ⟨last, now, B, P, turn, l, hJ, hR, ⟨hl0, hlk⟩, ⟨ht0, htk⟩, hnow, hlm, hNm⟩ := HS.out
          have hJ2 := JJ.fresh hJ hBi (fun z => z = wo.heap.size) (fun z hz => by subst hz; exact ⟨Nat.le_refl _, hsi⟩)
          have hN2 : Nm wc nb := hNm.same (hBi.block nb (JJ.blt hJ rfl))
          obtain ⟨⟨m0, m1⟩, jn, hjn, hj5⟩ := idx5 x
          have hcN := hN2 jn hj5
          have hts := nm_len jn
          generalize nm jn = t at hcN hts
          have HJ2 := Lib.hid hJ2
          have HN2 := Lib.hid hN2
          have HR := Lib.hid hR
          have j0 : (0 : Int) ≤ (jn : Int) := by omega
          have j1 : (jn : Int) < 5 := by omega
          have hl1 : last ≤ 1000 := by omega
          have hlN : l.length ≤ 1000 := by omega
          clear hJ hJ2 hNm hN2 hR hv' hB hBi HS
          have hops : (op = 0 ∨ op = 1) ∨ (op = 2 ∨ op = 3) ∨ ((op == 0) = false ∧ (op == 1) = false ∧ (op == 2) = false ∧ (op == 3) = false) := by simp only [beq_eq_false_iff_ne]; omega
          rcases hops with hop | hop | ⟨n0, n1, n2, n3⟩
          · obtain ⟨id, fr, ev, er, last', B', P', hE, ⟨hla1, hla2⟩, hcap', hb⟩ := take_both HR.out t hts HM.out hlm ⟨hl0, hl1⟩
            have HE := Lib.hid hE
            have HB' := Lib.hid hb
            clear hE hb
            rcases hop with rfl | rfl
            all_goals as_aux_lemma =>
              go_upto_region 34 with (first
                | (go_at_call 15; (with_reducible refine (HB'.out.ref _ _ _ _ _ _ HJ2.out).mono ?_); rintro e W2 ⟨rfl, l', hR', hj⟩; have HR' := Lib.hid hR'; have HJ3 := Lib.hid hj; clear hR' hj)
                | (go_at_call 9; (with_reducible refine (HB'.out.pool _ _ _ _ _ _ HJ3.out).mono ?_); rintro e W3 ⟨rfl, hj⟩; have HJ4 := Lib.hid hj; clear hj)
                | (go_at_call 10; (with_reducible refine (ToldC.error_any HE.out er _ (HGc.out _ HJ4.out.base)).mono ?_); rintro e W4 ⟨rfl, hj⟩; have HSS := Lib.hid (ss_of (k := k + 1) (HJ4.out.below hj) (.inl rfl) HR'.out (by omega) (by omega) hnow hcap' HN2.out); clear hj))
              obtain ⟨rv, hro⟩ := ss_ref HSS.out
              obtain ⟨e1, e2⟩ := ss_counts HSS.out t
              have hlc : (l'.length : Int) ≤ many := HSS.out.2.2.2.2.2.1
              have hc4 := hro.c4
              obtain ⟨ga, gc, rfl, hgc1, hgc2, -⟩ := hro.own.slice
              have HRO := Lib.hid hro
              obtain ⟨L, hL⟩ : ∃ L, l'.length = L := ⟨_, rfl⟩
              rw [hL] at hc4 hgc1 e1 e2 hlc
              have HL := Lib.hid hL
              have HE1 := Lib.hid e1
              have HE2 := Lib.hid e2
              clear hro hL e1 e2
              go_wp2_with fail
              go_loop [26, 27, 28] (fun bv dv nv => ∃ n : Nat, bv = .int .i64 (cB l' n) ∧ dv = .int .i64 (cI t l' n) ∧ nv = .int .i64 n ∧ n ≤ L) (fun _ _ nv => L - (intOf nv).toNat)
              case atStart => exact ⟨0, by simp [cB], by simp [cI], rfl, Nat.zero_le _⟩
              case round =>
                obtain ⟨n, rfl, rfl, rfl, hn⟩ := hrel
                by_cases hlt : n < L
                · have hil : n < l'.length := by rw [HL.out]; exact hlt
                  obtain ⟨g, c, e, -, -, -, -, d0, d1, d2, -⟩ := HRO.out.entry hil
                  obtain ⟨rfl, _, _⟩ := Value.slice.inj e
                  have s1 := cB_step l' n hil
                  have s2 := cI_step t l' n hil
                  obtain ⟨c1, c2⟩ := cB_bd l' n
                  obtain ⟨c3, c4⟩ := cI_bd t l' n
                  obtain ⟨⟨xi, xt, xb, xa, xu⟩, hx⟩ : ∃ y, l'.getD n default = y := ⟨_, rfl⟩
                  rw [hx] at d1 d2 s1 s2
                  simp only at d1 d2 s1 s2
                  have HS1 := Lib.hid s1
                  have HS2 := Lib.hid s2
                  have i0 : (0 : Int) ≤ (n : Int) := by omega
                  have i1 : (n : Int) < (L : Int) := by omega
                  clear hx e d0 s1 s2
                  cases xb with
                  | true =>
                    go_wp2_with fail
                    go_round
                    case measure => simp [intOf]; omega
                    case rel => exact ⟨n + 1, (by rw [HS1.out]; rfl), (by rw [HS2.out]; simp), (by go_num), by omega⟩
                  | false =>
                    cases hto : (xt.toList == t.toList) with
                    | true =>
                      go_wp2_with fail
                      go_round
                      case measure => simp [intOf]; omega
                      case rel => exact ⟨n + 1, (by rw [HS1.out]; simp), (by rw [HS2.out]; simp [hto]), (by go_num), by omega⟩
                    | false =>
                      go_wp2_with fail
                      go_round
                      case measure => simp [intOf]; omega
                      case rel => exact ⟨n + 1, (by rw [HS1.out]; simp), (by rw [HS2.out]; simp [hto]), (by go_num), by omega⟩
                · obtain rfl : L = n := by omega
                  have hN : ¬ ((L : Int) < (L : Int)) := by omega
                  rw [HE1.out, HE2.out]
                  go_wp2_with (first
                    | (go_at_call 12; (with_reducible refine (ss_busy HSS.out).mono ?_); rintro e W5 ⟨rfl, rfl⟩)
                    | (go_at_call 13; (with_reducible refine (ss_idle HSS.out hm2 t).mono ?_); rintro e W6 ⟨rfl, hss⟩; have HSS6 := Lib.hid hss; clear hss))
                  go_roundw
                  case measure => simp [intOf]; omega
                  case rel => exact ⟨k + 1, rfl, (by go_num), by omega, by omega, Lib.hid HSS6.out.st⟩
          · obtain ⟨ev, er, B', P', turn', hE, ⟨hla1, hla2⟩, hcap0, hb⟩ := back_both HR.out x b1 (decide (0 < y.tmod 3)) hnow ⟨ht0, by omega⟩ hlN
            have hcap' : ((B'.length + P'.length : Nat) : Int) ≤ many := by have := HR.out.len; omega
            have HE := Lib.hid hE
            have HB' := Lib.hid hb
            clear hE hb
            rcases hop with rfl | rfl
            all_goals as_aux_lemma =>
              go_upto_region 33 with fail
              have HJ1 := Lib.hid (JJ.below HJ2.out (drew_below wc))
              have d1' : wc.drew.cell? ⟨wo.heap.size, 1, none⟩ = some (.int .i64 x) := d1
              have d2' : wc.drew.cell? ⟨wo.heap.size, 2, none⟩ = some (.int .i64 y) := d2
              have HD : Hid (∀ W' : World, W'.heap[wo.heap.size]? = wc.heap[wo.heap.size]? → W'.cell? ⟨wo.heap.size, 1, none⟩ = some (.int .i64 x) ∧ W'.cell? ⟨wo.heap.size, 2, none⟩ = some (.int .i64 y)) := fun W' hW => ⟨(World.cell?_of_block (a := ⟨wo.heap.size, 1, none⟩) hW).trans d1, (World.cell?_of_block (a := ⟨wo.heap.size, 2, none⟩) hW).trans d2⟩
              go_region_held3 (fun w' => w'.cell? ⟨wo.heap.size, 1, none⟩ = some (.int .i64 x) ∧ w'.cell? ⟨wo.heap.size, 2, none⟩ = some (.int .i64 y)) (first | exact ⟨d1', d2'⟩ | exact k1 | exact k3 | exact k5)
                (first
                  | (go_at_call 11; (with_reducible refine (HB'.out.pool _ _ _ _ _ _ HJ1.out).mono ?_); rintro e W2 ⟨rfl, hj⟩; have k1 := HD.out _ (JJ.same hj wo.heap.size (.inr rfl)); have HJ3 := Lib.hid hj; clear hj)
                  | (go_at_call 16; (with_reducible refine (HB'.out.ref _ _ _ _ _ _ HJ3.out).mono ?_); rintro e W3 ⟨rfl, l', hR', hj⟩; have k3 := HD.out _ (JJ.same hj wo.heap.size (.inr rfl)); have HR' := Lib.hid hR'; have HJ4 := Lib.hid hj; clear hR' hj)
                  | (go_at_call 10; (with_reducible refine (ToldC.error_any HE.out er _ (HGc.out _ HJ4.out.base)).mono ?_); rintro e W4 ⟨rfl, hj⟩; have k5 := HD.out _ (JJ.same (HJ4.out.below hj) wo.heap.size (.inr rfl)); have HSS := Lib.hid (ss_of (k := k + 1) (HJ4.out.below hj) (.inl rfl) HR'.out (by omega) (by omega) hnow hcap' HN2.out); clear hj))
              go_upto_region 34 with fail
              obtain ⟨rv, hro⟩ := ss_ref HSS.out
              obtain ⟨e1, e2⟩ := ss_counts HSS.out t
              have hlc : (l'.length : Int) ≤ many := HSS.out.2.2.2.2.2.1
              have hc4 := hro.c4
              obtain ⟨ga, gc, rfl, hgc1, hgc2, -⟩ := hro.own.slice
              have HRO := Lib.hid hro
              obtain ⟨L, hL⟩ : ∃ L, l'.length = L := ⟨_, rfl⟩
              rw [hL] at hc4 hgc1 e1 e2 hlc
              have HL := Lib.hid hL
              have HE1 := Lib.hid e1
              have HE2 := Lib.hid e2
              clear hro hL e1 e2
              go_wp2_with fail
              go_loop [26, 27, 28] (fun bv dv nv => ∃ n : Nat, bv = .int .i64 (cB l' n) ∧ dv = .int .i64 (cI t l' n) ∧ nv = .int .i64 n ∧ n ≤ L) (fun _ _ nv => L - (intOf nv).toNat)
              case atStart => exact ⟨0, by simp [cB], by simp [cI], rfl, Nat.zero_le _⟩
              case round =>
                obtain ⟨n, rfl, rfl, rfl, hn⟩ := hrel
                by_cases hlt : n < L
                · have hil : n < l'.length := by rw [HL.out]; exact hlt
                  obtain ⟨g, c, e, -, -, -, -, d0, d1, d2, -⟩ := HRO.out.entry hil
                  obtain ⟨rfl, _, _⟩ := Value.slice.inj e
                  have s1 := cB_step l' n hil
                  have s2 := cI_step t l' n hil
                  obtain ⟨c1, c2⟩ := cB_bd l' n
                  obtain ⟨c3, c4⟩ := cI_bd t l' n
                  obtain ⟨⟨xi, xt, xb, xa, xu⟩, hx⟩ : ∃ y, l'.getD n default = y := ⟨_, rfl⟩
                  rw [hx] at d1 d2 s1 s2
                  simp only at d1 d2 s1 s2
                  have HS1 := Lib.hid s1
                  have HS2 := Lib.hid s2
                  have i0 : (0 : Int) ≤ (n : Int) := by omega
                  have i1 : (n : Int) < (L : Int) := by omega
                  clear hx e d0 s1 s2
                  cases xb with
                  | true =>
                    go_wp2_with fail
                    go_round
                    case measure => simp [intOf]; omega
                    case rel => exact ⟨n + 1, (by rw [HS1.out]; rfl), (by rw [HS2.out]; simp), (by go_num), by omega⟩
                  | false =>
                    cases hto : (xt.toList == t.toList) with
                    | true =>
                      go_wp2_with fail
                      go_round
                      case measure => simp [intOf]; omega
                      case rel => exact ⟨n + 1, (by rw [HS1.out]; simp), (by rw [HS2.out]; simp [hto]), (by go_num), by omega⟩
                    | false =>
                      go_wp2_with fail
                      go_round
                      case measure => simp [intOf]; omega
                      case rel => exact ⟨n + 1, (by rw [HS1.out]; simp), (by rw [HS2.out]; simp [hto]), (by go_num), by omega⟩
                · obtain rfl : L = n := by omega
                  have hN : ¬ ((L : Int) < (L : Int)) := by omega
                  rw [HE1.out, HE2.out]
                  go_wp2_with (first
                    | (go_at_call 12; (with_reducible refine (ss_busy HSS.out).mono ?_); rintro e W5 ⟨rfl, rfl⟩)
                    | (go_at_call 13; (with_reducible refine (ss_idle HSS.out hm2 t).mono ?_); rintro e W6 ⟨rfl, hss⟩; have HSS6 := Lib.hid hss; clear hss))
                  go_roundw
                  case measure => simp [intOf]; omega
                  case rel => exact ⟨k + 1, rfl, (by go_num), by omega, by omega, Lib.hid HSS6.out.st⟩
          · as_aux_lemma =>
            obtain ⟨ev, er, now', P', G, hT, hRef, hPool⟩ := tick_both HR.out x y hnow hlN
            have hnow' : 0 ≤ now' ∧ now' ≤ 1000000 := by rcases hT.nw with h | h <;> omega
            have hcap' : ((B.length + P'.length : Nat) : Int) ≤ many := by have := HR.out.len; have := hT.sub; omega
            have HE := Lib.hid hT.told
            have HRef := Lib.hid hRef
            have HPool := Lib.hid hPool
            clear hT hRef hPool
            go_upto_region 34 with (first
              | (go_at_call 17; (with_reducible refine (HRef.out _ _ _ _ _ _ HJ2.out).mono ?_); rintro e W2 ⟨ya, yn, yc, rfl, hown, l', hR', hj, hsame⟩; have kx := (World.cell?_of_block (a := ⟨wo.heap.size, 1, none⟩) (hsame wo.heap.size (.inr rfl))).trans d1; have ky := (World.cell?_of_block (a := ⟨wo.heap.size, 2, none⟩) (hsame wo.heap.size (.inr rfl))).trans d2; have HN3 := Lib.hid (HN2.out.same (hsame nb (.inl rfl))); have HR' := Lib.hid hR'; have HJ3 := Lib.hid hj; have HOG := Lib.hid hown; clear hR' hj hown hsame)
              | (go_at_call 14; (with_reducible refine (HPool.out _ _ _ _ _ _ HJ3.out).mono ?_); rintro e W3 ⟨xa, xn, xc, rfl, hown, hj⟩; have HJ4 := Lib.hid hj; have HOX := Lib.hid hown; have HOG3 := Lib.hid (RowsL.Own.of_block HOG.out (fun g hg => JJ.same hj g (.inr (by unfold blk; cases ya <;> exact hg)))); clear hj hown)
              | (go_at_call 10; (with_reducible refine (ToldC.error_any HE.out er _ (HGc.out _ HJ4.out.base)).mono ?_); rintro e W4 ⟨rfl, hj⟩; have HJ5 := Lib.hid (HJ4.out.below hj); have HOX4 := Lib.hid (RowsL.Own.of_block HOX.out (fun g hg => hj.block g (HOX.out.lt g hg).2)); have HOG4 := Lib.hid (RowsL.Own.of_block HOG3.out (fun g hg => hj.block g (HOG3.out.lt g hg).2)); clear hj)
              | (go_at_call 18; (with_reducible refine (ints_same G _ HOX4.out HOG4.out).mono ?_); rintro e W5 ⟨rfl, hj⟩; have HSS := Lib.hid (ss_of (k := k + 1) (HJ5.out.below hj) (.inl (.inl rfl)) HR'.out (by omega) (by omega) hnow' hcap' HN3.out); clear hj))
            obtain ⟨rv, hro⟩ := ss_ref HSS.out
            obtain ⟨e1, e2⟩ := ss_counts HSS.out t
            have hlc : (l'.length : Int) ≤ many := HSS.out.2.2.2.2.2.1
            have hc4 := hro.c4
            obtain ⟨ga, gc, rfl, hgc1, hgc2, -⟩ := hro.own.slice
            have HRO := Lib.hid hro
            obtain ⟨L, hL⟩ : ∃ L, l'.length = L := ⟨_, rfl⟩
            rw [hL] at hc4 hgc1 e1 e2 hlc
            have HL := Lib.hid hL
            have HE1 := Lib.hid e1
            have HE2 := Lib.hid e2
            clear hro hL e1 e2
            go_wp2_with fail
            go_loop [26, 27, 28] (fun bv dv nv => ∃ n : Nat, bv = .int .i64 (cB l' n) ∧ dv = .int .i64 (cI t l' n) ∧ nv = .int .i64 n ∧ n ≤ L) (fun _ _ nv => L - (intOf nv).toNat)
            case atStart => exact ⟨0, by simp [cB], by simp [cI], rfl, Nat.zero_le _⟩
            case round =>
              obtain ⟨n, rfl, rfl, rfl, hn⟩ := hrel
              by_cases hlt : n < L
              · have hil : n < l'.length := by rw [HL.out]; exact hlt
                obtain ⟨g, c, e, -, -, -, -, d0, d1, d2, -⟩ := HRO.out.entry hil
                obtain ⟨rfl, _, _⟩ := Value.slice.inj e
                have s1 := cB_step l' n hil
                have s2 := cI_step t l' n hil
                obtain ⟨c1, c2⟩ := cB_bd l' n
                obtain ⟨c3, c4⟩ := cI_bd t l' n
                obtain ⟨⟨xi, xt, xb, xa, xu⟩, hx⟩ : ∃ y, l'.getD n default = y := ⟨_, rfl⟩
                rw [hx] at d1 d2 s1 s2
                simp only at d1 d2 s1 s2
                have HS1 := Lib.hid s1
                have HS2 := Lib.hid s2
                have i0 : (0 : Int) ≤ (n : Int) := by omega
                have i1 : (n : Int) < (L : Int) := by omega
                clear hx e d0 s1 s2
                cases xb with
                | true =>
                  go_wp2_with fail
                  go_round
                  case measure => simp [intOf]; omega
                  case rel => exact ⟨n + 1, (by rw [HS1.out]; rfl), (by rw [HS2.out]; simp), (by go_num), by omega⟩
                | false =>
                  cases hto : (xt.toList == t.toList) with
                  | true =>
                    go_wp2_with fail
                    go_round
                    case measure => simp [intOf]; omega
                    case rel => exact ⟨n + 1, (by rw [HS1.out]; simp), (by rw [HS2.out]; simp [hto]), (by go_num), by omega⟩
                  | false =>
                    go_wp2_with fail
                    go_round
                    case measure => simp [intOf]; omega
                    case rel => exact ⟨n + 1, (by rw [HS1.out]; simp), (by rw [HS2.out]; simp [hto]), (by go_num), by omega⟩
              · obtain rfl : L = n := by omega
                have hN : ¬ ((L : Int) < (L : Int)) := by omega
                rw [HE1.out, HE2.out]
                go_wp2_with (first
                  | (go_at_call 12; (with_reducible refine (ss_busy HSS.out).mono ?_); rintro e W5 ⟨rfl, rfl⟩)
                  | (go_at_call 13; (with_reducible refine (ss_idle HSS.out hm2 t).mono ?_); rintro e W6 ⟨rfl, hss⟩; have HSS6 := Lib.hid hss; clear hss))
                go_roundw
                case measure => simp [intOf]; omega
                case rel => exact ⟨k + 1, rfl, (by go_num), by omega, by omega, Lib.hid HSS6.out.st⟩
      · have HB := Lib.hid hB
        clear hB
        rcases Nat.lt_or_ge k rows.length with h | h
        · have h80 : ¬ (k : Int) < 80 := by omega
          have hlt : (k : Int) < (rows.length : Int) := by omega
          go_wp2_with fail
          go_ret
          exact ⟨rfl, HB.out⟩
        · have hge : ¬ (k : Int) < (rows.length : Int) := by omega
          go_wp2_with fail
          go_ret
          exact ⟨rfl, HB.out⟩
  · have hm2 : many < 1 ∨ 8 < many := by omega
    clear hm
    rcases hm2 with hm2 | hm2
    all_goals
      go_wp2_with (first
        | (go_at_call 8; (with_reducible refine (new_bad many _ (by omega)).mono ?_); rintro e w1 ⟨rfl, rfl⟩)
        | (go_at_call 10; (with_reducible refine (ToldC.error_any (.err 1) 1 _ (HGc.out _ (Below.refl _ _))).mono ?_); rintro e w2 ⟨rfl, hB⟩))
      go_ret
      exact ⟨rfl, hB⟩
end Go.Proofs.YtcdhjbeeehjpiaaDoor.WalkPoolPlays
