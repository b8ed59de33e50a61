/-
  The walk of the law PickWants: for all steps it returns true and writes nothing that was there.
  Conditions: none.
-/
import Derived.Test.YtfgplghjgjnggaaArgs
import Derived.Test.YtfgplghjgjnggaaPick
import Derived.Deep.CutBlock
import Derived.Lib.Hide
namespace Go.Proofs.Ytfgplghjgjnggaa.WalkPickWants
open Go.RowKit PickC ModL
set_option linter.unusedVariables false
set_option linter.unusedSimpArgs false

/-- The seven, and what the law's own row says of each. -/
structure Inv (w : World) (b m A B : Nat) (l : List Ent) (W : Nat → Bool) : Prop where
  pick : IsPick w b m l
  cell : ∀ k, k < 8 → w.cell? ⟨A, k, none⟩ = some (.bool (W k))
  free : ∀ k, k < 8 → w.frozen? ⟨A, k, none⟩ = false
  far : A ≠ b ∧ A ≠ m ∧ ∀ e ∈ l, e.a ≠ A
  same : ∀ e ∈ l, W e.id.toNat = e.wants
  low : B ≤ b ∧ B ≤ m ∧ B ≤ A ∧ ∀ e ∈ l, B ≤ e.a
def Ids (l : List Ent) (n : Nat) : Prop := l.map (·.id) = (List.range n).map fun k => ((k + 1 : Nat) : Int)
theorem Ids.find {l : List Ent} {n : Nat} (h : Ids l n) (id : Int) (h1 : 1 ≤ id) (h2 : id ≤ n) : ∃ x, findE l id = some x := by
  cases hf : findE l id with
  | some x => exact ⟨x, rfl⟩
  | none =>
    have hm : id ∈ l.map (·.id) := by
      rw [h]
      exact List.mem_map.2 ⟨id.toNat - 1, List.mem_range.2 (by omega), by omega⟩
    obtain ⟨e, he, rfl⟩ := List.mem_map.1 hm
    exact absurd rfl (findE_none hf e he)
theorem Ids.none {l : List Ent} {n : Nat} (h : Ids l n) (id : Int) (h2 : (n : Int) < id) : findE l id = none := by
  cases hf : findE l id with
  | none => rfl
  | some x =>
    obtain ⟨hx, rfl⟩ := findE_some hf
    have hm : x.id ∈ l.map (·.id) := List.mem_map.2 ⟨x, hx, rfl⟩
    rw [h] at hm
    obtain ⟨k, hk, e⟩ := List.mem_map.1 hm
    have := List.mem_range.1 hk
    omega
theorem Ids.len {l : List Ent} {n : Nat} (h : Ids l n) : l.length = n := by have := congrArg List.length h; simpa using this
theorem Ids.upd {l : List Ent} {n : Nat} (h : Ids l n) (id : Int) (g : Ent → Ent) (hg : ∀ e, (g e).id = e.id) : Ids (updE l id g) n := by
  unfold Ids at h ⊢
  rw [← h, updE, List.map_map]
  apply List.map_congr_left
  intro e he
  simp only [Function.comp]
  split
  · exact hg e
  · rfl
theorem Ids.add {l : List Ent} {n : Nat} (h : Ids l n) (x : Ent) (hx : x.id = ((n + 1 : Nat) : Int)) : Ids (l ++ [x]) (n + 1) := by
  unfold Ids at h ⊢
  rw [List.map_append, h, List.range_succ, List.map_append]
  simp [hx]
theorem Ids.mem {l : List Ent} {n : Nat} (h : Ids l n) {e : Ent} (he : e ∈ l) : 1 ≤ e.id ∧ e.id ≤ n := by
  have hm : e.id ∈ l.map (·.id) := List.mem_map.2 ⟨e, he, rfl⟩
  rw [h] at hm
  obtain ⟨k, hk, e⟩ := List.mem_map.1 hm
  have := List.mem_range.1 hk
  omega
/-- Does one below k want? -/
def anyTo (W : Nat → Bool) (k : Nat) : Bool := (List.range (k - 1)).any fun j => W (j + 1)
theorem anyTo_one (W : Nat → Bool) : anyTo W 1 = false := rfl
theorem anyTo_step (W : Nat → Bool) (k : Nat) (hk : 1 ≤ k) : anyTo W (k + 1) = (anyTo W k || W k) := by
  unfold anyTo
  obtain ⟨j, rfl⟩ : ∃ j, k = j + 1 := ⟨k - 1, by omega⟩
  simp only [Nat.add_sub_cancel, List.range_succ, List.any_append, List.any_cons, List.any_nil, Bool.or_false]
theorem anyTo_true {W : Nat → Bool} {k : Nat} (j : Nat) (h1 : 1 ≤ j) (h2 : j < k) (h : W j = true) : anyTo W k = true := by
  unfold anyTo
  rw [List.any_eq_true]
  exact ⟨j - 1, List.mem_range.2 (by omega), by rw [show j - 1 + 1 = j by omega]; exact h⟩
theorem anyTo_false {W : Nat → Bool} {k : Nat} (h : ∀ j, 1 ≤ j → j < k → W j = false) : anyTo W k = false := by
  unfold anyTo
  rw [List.any_eq_false]
  intro j hj
  have := List.mem_range.1 hj
  rw [h (j + 1) (by omega) (by omega)]; decide
/-- Whose turn it is, wants; if one wants there is one. -/
theorem best_any {w : World} {b m A B : Nat} {l : List Ent} {W : Nat → Bool} (h : Inv w b m A B l W) (hi : Ids l 7) {id sc : Int} {ok : Bool} (hb : Best (fun _ => True) l id sc ok) :
    (ok = false ∧ anyTo W 8 = false) ∨ (ok = true ∧ anyTo W 8 = true ∧ ∃ k : Nat, id = k ∧ k < 8 ∧ W k = true) := by
  rcases hb with ⟨h1, _, _, h4⟩ | ⟨h1, e, he, _, h2, rfl, _, _⟩
  · refine .inl ⟨h1, anyTo_false fun j hj1 hj2 => ?_⟩
    obtain ⟨x, hx⟩ := hi.find j (by omega) (by omega)
    obtain ⟨hxl, hxi⟩ := findE_some hx
    have := h.same x hxl
    rw [hxi] at this
    rw [show j = ((j : Int)).toNat from rfl, this]
    exact h4 x hxl trivial
  · have hm := hi.mem he
    have hW := h.same e he
    rw [h2] at hW
    exact .inr ⟨h1, anyTo_true e.id.toNat (by omega) (by omega) hW, e.id.toNat, by omega, by omega, hW⟩

theorem Inv.below {w w' : World} {b m A B : Nat} {l : List Ent} {W : Nat → Bool} (h : Inv w b m A B l W) (hB : Below w.heap.size w w') : Inv w' b m A B l W := by
  have hA : A < w.heap.size := block_lt_of_cell (h.cell 0 (by omega))
  exact ⟨h.pick.below hB, fun k hk => (hB.cell (p := ⟨A, k, none⟩) hA).trans (h.cell k hk), fun k hk => (hB.frozen (p := ⟨A, k, none⟩) hA).trans (h.free k hk), h.far, h.same, h.low⟩
theorem Inv.step {w w' : World} {b m A B : Nat} {l : List Ent} {W : Nat → Bool} (h : Inv w b m A B l W) (id : Int) (g : Ent → Ent) (hg : ∀ e, (g e).id = e.id ∧ (g e).a = e.a ∧ (g e).wants = e.wants) (hp : IsPick w' b m (updE l id g)) (hM : Mod (fun k => ∃ e ∈ l, e.a = k) w w') : Inv w' b m A B (updE l id g) W := by
  have hA : A < w.heap.size := block_lt_of_cell (h.cell 0 (by omega))
  have hnA : ¬ ∃ e ∈ l, e.a = A := fun ⟨e, he, e1⟩ => h.far.2.2 e he e1
  have key : ∀ e ∈ updE l id g, ∃ e0 ∈ l, e.a = e0.a ∧ e.id = e0.id ∧ e.wants = e0.wants := fun e he => by
    obtain ⟨e0, he0, rfl⟩ := List.mem_map.1 he
    refine ⟨e0, he0, ?_⟩
    split
    · exact ⟨(hg e0).2.1, (hg e0).1, (hg e0).2.2⟩
    · exact ⟨rfl, rfl, rfl⟩
  refine ⟨hp, fun k hk => (hM.cell (p := ⟨A, k, none⟩) hA hnA).trans (h.cell k hk), fun k hk => (hM.frozen (p := ⟨A, k, none⟩) hA hnA).trans (h.free k hk), ⟨h.far.1, h.far.2.1, fun e he => ?_⟩, fun e he => ?_, ⟨h.low.1, h.low.2.1, h.low.2.2.1, fun e he => ?_⟩⟩
  all_goals obtain ⟨e0, he0, h1, h2, h3⟩ := key e he
  · rw [h1]; exact h.far.2.2 e0 he0
  · rw [h2, h3]; exact h.same e0 he0
  · rw [h1]; exact h.low.2.2.2 e0 he0
theorem Inv.add {w w' : World} {b m A B : Nat} {l : List Ent} {W : Nat → Bool} (h : Inv w b m A B l W) (hBw : B ≤ w.heap.size) (x : Ent) (hp : IsPick w' b m (l ++ [x])) (hM : Mod (fun k => k = m) w w') (hx : w.heap.size ≤ x.a) (hs : W x.id.toNat = x.wants) : Inv w' b m A B (l ++ [x]) W := by
  have hA : A < w.heap.size := block_lt_of_cell (h.cell 0 (by omega))
  have hnA : ¬ (A = m) := h.far.2.1
  refine ⟨hp, fun k hk => (hM.cell (p := ⟨A, k, none⟩) hA hnA).trans (h.cell k hk), fun k hk => (hM.frozen (p := ⟨A, k, none⟩) hA hnA).trans (h.free k hk), ⟨h.far.1, h.far.2.1, fun e he => ?_⟩, fun e he => ?_, ⟨h.low.1, h.low.2.1, h.low.2.2.1, fun e he => ?_⟩⟩
  all_goals rcases List.mem_append.1 he with he | he
  · exact h.far.2.2 e he
  · rw [List.mem_singleton.1 he]; omega
  · exact h.same e he
  · rw [List.mem_singleton.1 he]; exact hs
  · exact h.low.2.2.2 e he
  · rw [List.mem_singleton.1 he]; omega
/-- One says whether it wants; the law's row is told. -/
theorem Inv.want {w w' : World} {b m A B : Nat} {l : List Ent} {W : Nat → Bool} (h : Inv w b m A B l W) (k : Nat) (hk : k < 8) (ok : Bool) (sc : Int) (yes : Bool) (hp : IsPick w' b m (updE l (k : Int) (wantE ok sc yes))) (hM : Mod (fun k => ∃ e ∈ l, e.a = k) w w') :
    Inv (w'.setCell ⟨A, k, none⟩ (.bool yes)) b m A B (updE l (k : Int) (wantE ok sc yes)) (fun j => if j = k then yes else W j) := by
  have hA : A < w.heap.size := block_lt_of_cell (h.cell 0 (by omega))
  have hnA : ¬ ∃ e ∈ l, e.a = A := fun ⟨e, he, e1⟩ => h.far.2.2 e he e1
  have hcell : ∀ k, k < 8 → w'.cell? ⟨A, k, none⟩ = some (.bool (W k)) := fun k hk => (hM.cell (p := ⟨A, k, none⟩) hA hnA).trans (h.cell k hk)
  have key : ∀ e ∈ updE l (k : Int) (wantE ok sc yes), ∃ e0 ∈ l, e.a = e0.a ∧ e.id = e0.id ∧ e.wants = (if e0.id = (k : Int) then yes else e0.wants) := fun e he => by
    obtain ⟨e0, he0, rfl⟩ := List.mem_map.1 he
    refine ⟨e0, he0, ?_⟩
    by_cases hi : e0.id = (k : Int)
    · simp [hi, wantE]
    · simp [hi]
  refine ⟨⟨?_, ?_, hp.ne, fun e he => ?_, hp.apart⟩, fun j hj => ?_, fun j hj => ?_, ⟨h.far.1, h.far.2.1, fun e he => ?_⟩, fun e he => ?_, ⟨h.low.1, h.low.2.1, h.low.2.2.1, fun e he => ?_⟩⟩
  · exact hp.map.setCell _ _ h.far.2.1
  · rw [World.cell?_setCell_other _ _ _ _ (by simp; intro e; exact absurd e h.far.1)]; exact hp.c0
  · obtain ⟨e0, he0, h1, _⟩ := key e he
    have hne : e.a ≠ A := by rw [h1]; exact h.far.2.2 e0 he0
    exact (hp.ents e he).of_block (Below.heap_setCell _ _ _ _ hne)
  · by_cases e : j = k
    · subst e; simp only [if_true]; exact World.cell?_setCell_same _ _ _ (hcell j hj)
    · simp only [e, if_false]; rw [World.cell?_setCell_other _ _ _ _ (by simp [e])]; exact hcell j hj
  · simp [go_sem, (hM.frozen (p := ⟨A, j, none⟩) hA hnA).trans (h.free j hj)]
  · obtain ⟨e0, he0, h1, _⟩ := key e he
    rw [h1]; exact h.far.2.2 e0 he0
  · obtain ⟨e0, he0, _, h2, h3⟩ := key e he
    have hi0 := (h.pick.ents e0 he0).hi
    rw [h2, h3]
    by_cases hi : e0.id = (k : Int)
    · simp [hi]
    · have : e0.id.toNat ≠ k := by omega
      simp only [hi, this, if_false]; exact h.same e0 he0
  · obtain ⟨e0, he0, h1, _⟩ := key e he
    rw [h1]; exact h.low.2.2.2 e0 he0

set_option maxRecDepth 100000 in
set_option maxHeartbeats 8000000 in
theorem walk (v0 : Value) (rows : List (List Int)) (w : World) (w0 : Args.IntRowsAt w v0 rows) :
    Calls Try.prog 3 #[v0] w fun e w' => e = .returned (.bool true) ∧ Below w.heap.size w w' := by
  obtain ⟨a0, cap, rfl, hcap1, hcap2, hel⟩ := w0.open
  have HEL := Lib.hid hel
  clear hel w0
  go_enter Try.func3, Try.ntmps3
  go_wp2_with fail
  refine (new_any _).mono ?_
  rintro e w1 ⟨rfl, hp1, hB1, hs1⟩
  have hn1 := next_any hp1
  have HN1 := Lib.hid hn1
  have HP1 := Lib.hid hp1
  have HB1 := Lib.hid hB1
  clear hn1 hp1 hB1
  go_wp2_with fail
  refine HN1.out.mono ?_
  rintro e w2 ⟨id, sc, ok, rfl, hbest, hB2⟩
  have hok : ok = false := by
    rcases hbest with ⟨h, _⟩ | ⟨_, e, he, _⟩
    · exact h
    · cases he
  subst hok
  have HP2 := Lib.hid (HP1.out.below hB2)
  have hs2 := hB2.size
  have HB2 : Hid (Below w.heap.size w w2) := HB1.out.trans (hB2.mono (by omega))
  clear hB2 hbest
  have hI0 : Inv (w2.alloc (.cells #[.bool false, .bool false, .bool false, .bool false, .bool false, .bool false, .bool false, .bool false] 27)) (w.heap.size + 1) w.heap.size w2.heap.size w.heap.size [] (fun _ => false) := by
    refine ⟨HP2.out.below ((Below.refl _ _).alloc (Nat.le_refl _) _), fun k hk => ?_, fun k hk => by simp, ⟨by omega, by omega, by simp⟩, by simp, ⟨by omega, by omega, by omega, by simp⟩⟩
    obtain rfl | rfl | rfl | rfl | rfl | rfl | rfl | rfl : k = 0 ∨ k = 1 ∨ k = 2 ∨ k = 3 ∨ k = 4 ∨ k = 5 ∨ k = 6 ∨ k = 7 := by omega
    all_goals simp
  have HI0 := Lib.hid hI0
  have HB3 := Lib.hid (HB2.out.alloc (by omega) (.cells #[.bool false, .bool false, .bool false, .bool false, .bool false, .bool false, .bool false, .bool false] 27))
  clear hI0
  go_wp2_with fail
  go_loopw [7] (fun i wr => ∃ (k : Nat) (l : List Ent), i = .int .i64 ((k : Int) + 1) ∧ k ≤ 7 ∧ Inv wr (w.heap.size + 1) w.heap.size w2.heap.size w.heap.size l (fun _ => false) ∧ Hid (Ids l k) ∧ Below w.heap.size w wr) (fun i _ => 8 - (intOf i).toNat)
  case atStart => exact ⟨0, [], rfl, by omega, HI0.out, rfl, HB3.out⟩
  case round =>
    obtain ⟨k, l, rfl, hk, hI, HID, hB⟩ := hrel
    have HI := Lib.hid hI
    have HB := Lib.hid hB
    have hszr := hB.size
    by_cases hlt : k < 7
    · have HA := Lib.hid (add_ok hI.pick ((k : Int) + 1) (10 * ((k : Int) + 1)) (by unfold okAdd; omega) (HID.out.none _ (by omega)) (by rw [HID.out.len]; omega))
      clear hI hB
      go_wp2_with fail
      refine HA.out.mono ?_
      rintro e w3 ⟨a, bid, bsc, bok, rfl, hb, hp, hM, ha⟩
      have HI3 := Lib.hid (HI.out.add hszr _ hp hM ha rfl)
      have HB3 : Hid (Below w.heap.size w w3) := by
        refine HB.out.trans (hM.toBelow hszr fun k hk => ?_)
        have := HI.out.low.2.1
        omega
      clear hb hp hM
      go_wp2_with fail
      go_roundw
      case rel => exact ⟨k + 1, _, by go_num, by omega, HI3.out, HID.out.add _ (by simp), HB3.out⟩
      case measure => simp [intOf]; omega
    · obtain rfl : k = 7 := by omega
      clear hI hB
      obtain ⟨wp, rfl⟩ : ∃ wp : World, wp = wr := ⟨_, rfl⟩
      go_wp2_with fail
      go_loopw [9] (fun i wr => ∃ (k : Nat) (l : List Ent) (W : Nat → Bool), i = .int .i64 k ∧ k ≤ rows.length ∧ k ≤ 80 ∧ Inv wr (w.heap.size + 1) w.heap.size w2.heap.size w.heap.size l W ∧ Hid (Ids l 7) ∧ Below w.heap.size w wr) (fun i _ => 80 - (intOf i).toNat)
      case atStart => exact ⟨0, l, _, rfl, by omega, by omega, HI.out, HID.out, HB.out⟩
      case round =>
        clear HID HI
        obtain ⟨k, l, W, rfl, hk1, hk2, hI, HID, hB⟩ := hrel
        have HI := Lib.hid hI
        have HB := Lib.hid hB
        have hszr := hB.size
        by_cases hin : k < rows.length ∧ k < 80
        · obtain ⟨h1, h2⟩ := hin
          obtain ⟨b, off, x, rfl, hb, hv, hx⟩ := HEL.out k h1
          obtain ⟨ax, capx, rfl, hcx, hcx2, helx⟩ := hx.open
          have HX := Lib.hid helx
          have HXI := Lib.hid hx.2
          have hv' := (hB.cell (p := ⟨b, off + k, none⟩) hb).trans hv
          clear helx hx hv hI
          generalize rows.getD k [] = r at *
          obtain ⟨wo, rfl⟩ : ∃ wo : World, wo = wr := ⟨_, rfl⟩
          go_upto_block 4 with fail
          go_cut [11] from 35 to 125 (fun _ wc => Below wo.heap.size wo wc ∧ wo.heap.size < wc.heap.size ∧ wc.cell? ⟨wo.heap.size, 0, none⟩ = some (.int .i64 (r.getD 0 0)) ∧ wc.cell? ⟨wo.heap.size, 1, none⟩ = some (.int .i64 (r.getD 1 0)) ∧ wc.cell? ⟨wo.heap.size, 2, none⟩ = some (.int .i64 (r.getD 2 0)))
          case first =>
            clear HI HID HEL HXI
            go_wp2_with fail
            go_loopw [11] (fun jv wi => ∃ (j : Nat), jv = .int .i64 j ∧ j ≤ r.length ∧ j ≤ 3 ∧ Below wo.heap.size wo wi ∧ wo.heap.size < wi.heap.size ∧ Hid (∀ t, t < 3 → wi.frozen? ⟨wo.heap.size, t, none⟩ = false ∧ wi.cell? ⟨wo.heap.size, t, none⟩ = some (.int .i64 (Args.cp r j t)))) (fun jv _ => 3 - (intOf jv).toNat)
            case atStart => exact ⟨0, rfl, by omega, by omega, (Below.refl _ _).alloc (Nat.le_refl _) _, by simp, by intro t ht; rcases t with _ | _ | _ | t <;> first | (simp [Args.cp]; done) | omega⟩
            case round =>
              obtain ⟨j, rfl, hj1, hj2, hBi, hsi, HD⟩ := hrel
              have hv2 := (hBi.cell (p := ⟨b, off + k, none⟩) (by simp only; omega)).trans hv'
              by_cases hj : j < r.length ∧ j < 3
              · obtain ⟨g1, g2⟩ := hj
                obtain ⟨bx, ox, rfl, hbx, hvx, hix⟩ := HX.out j g1
                have hvx2 := (hBi.cell (p := ⟨bx, ox + j, none⟩) (by simp only; omega)).trans ((HB.out.cell (p := ⟨bx, ox + j, none⟩) hbx).trans hvx)
                clear hix hvx
                obtain ⟨hfj, hcj⟩ := HD.out j g2
                obtain ⟨vj, hvj⟩ : ∃ vj, r.getD j 0 = vj := ⟨_, rfl⟩
                rw [hvj] at hvx2
                have HVJ := Lib.hid hvj
                clear hvj
                go_wp2
                go_roundw
                case rel => exact ⟨j + 1, by go_num, by omega, by omega, hBi.setCell (Nat.le_refl _) _, by simp; omega, fun t ht => by
                  obtain ⟨f1, c1⟩ := HD.out t ht
                  by_cases e : t = j
                  · subst e; exact ⟨by simp [go_sem, f1], by rw [World.cell?_setCell_same _ _ _ hcj, Args.cp_step, if_pos rfl, HVJ.out]⟩
                  · exact ⟨by simp [go_sem, f1], by rw [World.cell?_setCell_other _ _ _ _ (by simp <;> omega), c1, Args.cp_step, if_neg e]⟩⟩
                case measure => simp [intOf]; omega
              · have d0 := (HD.out 0 (by omega)).2
                have d1 := (HD.out 1 (by omega)).2
                have d2 := (HD.out 2 (by omega)).2
                rw [Args.cp_full _ _ _ (by omega)] at d0 d1 d2
                have D := Lib.hid (And.intro d0 (And.intro d1 d2))
                clear d0 d1 d2
                go_wp2
                all_goals go_meet
                all_goals exact ⟨hBi, hsi, D.out.1, D.out.2.1, D.out.2.2⟩
          case rest =>
            obtain ⟨hBi, hsi, d0, d1, d2⟩ := hcut
            have b1 := Args.getD_i64 HXI.out 1
            have b2 := Args.getD_i64 HXI.out 2
            generalize r.getD 0 0 = op at *
            generalize r.getD 1 0 = x at *
            generalize r.getD 2 0 = y at *
            obtain ⟨y1, y2⟩ := b2
            have HIc := Lib.hid (HI.out.below hBi)
            have HBc : Hid (Below w.heap.size w wc) := HB.out.trans (hBi.mono hszr)
            have hszc := hBi.size
            have HLO : Hid (∀ e ∈ l, e.a < wo.heap.size) := fun e he => (HI.out.pick.ents e he).lt
            clear hv' hBi HX HXI HI HB
            by_cases hx : 1 ≤ x ∧ x ≤ 7
            · obtain ⟨hx1, hx2⟩ := hx
              obtain ⟨kx, rfl⟩ := Int.eq_ofNat_of_zero_le (show 0 ≤ x by omega)
              go_upto_if 77 with fail
              go_cut [12] from 77 to 98 (fun _ wn => ∃ (l : List Ent) (W : Nat → Bool), Inv wn (w.heap.size + 1) w.heap.size w2.heap.size w.heap.size l W ∧ Ids l 7 ∧ Below w.heap.size w wn)
              case first =>
                obtain ⟨x0, hx0⟩ := HID.out.find (kx : Int) hx1 (by omega)
                have HX0 := Lib.hid hx0
                have hAlt : w2.heap.size < wc.heap.size := block_lt_of_cell (HIc.out.cell 0 (by omega))
                have hAne : ¬ ∃ e ∈ l, e.a = w2.heap.size := fun ⟨e, he, e1⟩ => HIc.out.far.2.2 e he e1
                have hBne : ¬ ∃ e ∈ l, e.a = wo.heap.size := fun ⟨e, he, e1⟩ => by have := HLO.out e he; omega
                by_cases hop : op < 3
                · have HWT := Lib.hid (want_some HIc.out.pick (kx : Int) (decide (0 < y)) (by omega) x0 hx0)
                  clear hx0
                  go_wp2_with fail
                  refine HWT.out.mono ?_
                  rintro e w4 ⟨rfl, bid, bsc, bok, hb, hp, hM⟩
                  have t1 := (hM.cell (p := ⟨wo.heap.size, 1, none⟩) hsi hBne).trans d1
                  have t2 := (hM.cell (p := ⟨wo.heap.size, 2, none⟩) hsi hBne).trans d2
                  have t3 := (hM.cell (p := ⟨w2.heap.size, kx, none⟩) hAlt hAne).trans (HIc.out.cell kx (by omega))
                  have t4 := (hM.frozen (p := ⟨w2.heap.size, kx, none⟩) hAlt hAne).trans (HIc.out.free kx (by omega))
                  have HI4 := Lib.hid (HIc.out.want kx (by omega) bok bsc (decide (0 < y)) hp hM)
                  have HB4 : Hid (Below w.heap.size w (w4.setCell ⟨w2.heap.size, kx, none⟩ (.bool (decide (0 < y))))) := (HBc.out.trans (hM.toBelow (by omega) fun k hk ⟨e, he, e1⟩ => by have := HIc.out.low.2.2.2 e he; omega)).setCell (by simp only; omega) _
                  clear hb hp hM hAne hBne
                  go_wp2
                  go_meet
                  exact ⟨_, _, HI4.out, HID.out.upd _ _ (fun e => rfl), HB4.out⟩
                · by_cases hy : 0 ≤ y ∧ y ≤ 1000000
                  · have HST := Lib.hid (sent_some HIc.out.pick (kx : Int) y (by omega) x0 hx0 hy)
                    clear hx0
                    go_wp2_with fail
                    refine HST.out.mono ?_
                    rintro e w4 ⟨rfl, hp, hM⟩
                    have HI4 := Lib.hid (HIc.out.step (kx : Int) (sentE y) (fun e => ⟨rfl, rfl, rfl⟩) hp hM)
                    have HB4 : Hid (Below w.heap.size w w4) := HBc.out.trans (hM.toBelow (by omega) fun k hk ⟨e, he, e1⟩ => by have := HIc.out.low.2.2.2 e he; omega)
                    clear hp hM hAne hBne
                    go_wp2
                    go_meet
                    exact ⟨_, _, HI4.out, HID.out.upd _ _ (fun e => rfl), HB4.out⟩
                  · have HST := Lib.hid (sent_bad HIc.out.pick (kx : Int) y (by omega) x0 hx0 (by omega))
                    clear hx0 hAne hBne
                    go_wp2_with fail
                    refine HST.out.mono ?_
                    rintro e w4 ⟨rfl, rfl⟩
                    go_wp2
                    go_meet
                    exact ⟨_, _, HIc.out, HID.out, HBc.out⟩
              case rest =>
                clear HID HIc HBc HLO d0 d1 d2
                obtain ⟨l, W, hI, hID, hB⟩ := hcut
                have HI := Lib.hid hI
                have HID := Lib.hid hID
                have HB := Lib.hid hB
                have hNX := next_any hI.pick
                have HNX := Lib.hid hNX
                have HBEST := Lib.hid (fun (id sc : Int) (ok : Bool) => best_any (id := id) (sc := sc) (ok := ok) hI hID)
                have hszn := hB.size
                have HCELL := Lib.hid hI.cell
                have hAlt : w2.heap.size < wc.heap.size := block_lt_of_cell (hI.cell 0 (by omega))
                clear hI hID hB hNX
                go_wp2_with fail
                go_loop [13, 14] (fun an i => ∃ j : Nat, 1 ≤ j ∧ j ≤ 8 ∧ i = .int .i64 j ∧ an = .bool (anyTo W j)) (fun _ i => 8 - (intOf i).toNat)
                case atStart => exact ⟨1, by omega, by omega, rfl, rfl⟩
                case round =>
                  obtain ⟨j, hj1, hj2, rfl, rfl⟩ := hrel
                  by_cases hj : j < 8
                  · have hc := HCELL.out j hj
                    have HST := Lib.hid (anyTo_step W j hj1)
                    cases hA : anyTo W j <;> cases hW : W j
                    all_goals
                      rw [hW] at hc
                      have HAA := Lib.hid hA
                      have HWW := Lib.hid hW
                      clear hA hW
                      go_wp2
                      go_round
                      case rel => exact ⟨j + 1, by omega, by omega, by go_num, by rw [HST.out, HAA.out, HWW.out]; rfl⟩
                      case measure => simp [intOf]; omega
                  · obtain rfl : j = 8 := by omega
                    go_wp2_with fail
                    refine HNX.out.mono ?_
                    rintro e w5 ⟨id5, sc5, ok5, rfl, hb5, hB5⟩
                    have HI5 := Lib.hid (HI.out.below hB5)
                    have HB5 : Hid (Below w.heap.size w w5) := HB.out.trans (hB5.mono hszn)
                    rcases HBEST.out _ _ _ hb5 with ⟨rfl, ha⟩ | ⟨rfl, ha, kk, rfl, hkk, hW⟩
                    · rw [ha]
                      clear hb5 hB5 ha
                      go_wp2
                      go_roundw
                      case rel => first | exact ⟨k + 1, l, W, by go_num, by omega, by omega, HI5.out, HID.out, HB5.out⟩ | ((repeat apply Exists.intro); exact ⟨⟨k + 1, l, W, by go_num, by omega, by omega, HI5.out, HID.out, HB5.out⟩, rfl⟩)
                      case measure => simp [intOf]; omega
                    · rw [ha]
                      have hc5 := (hB5.cell (p := ⟨w2.heap.size, kk, none⟩) hAlt).trans (HCELL.out kk hkk)
                      rw [hW] at hc5
                      clear hb5 hB5 ha hW
                      go_wp2
                      go_roundw
                      case rel => first | exact ⟨k + 1, l, W, by go_num, by omega, by omega, HI5.out, HID.out, HB5.out⟩ | ((repeat apply Exists.intro); exact ⟨⟨k + 1, l, W, by go_num, by omega, by omega, HI5.out, HID.out, HB5.out⟩, rfl⟩)
                      case measure => simp [intOf]; omega
            · by_cases hx1 : x < 1
              · go_wp2
                go_roundw
                case rel => exact ⟨k + 1, l, W, by go_num, by omega, by omega, HIc.out, HID.out, HBc.out⟩
                case measure => simp [intOf]; omega
              · have hx2 : 7 < x := by omega
                go_wp2
                go_roundw
                case rel => exact ⟨k + 1, l, W, by go_num, by omega, by omega, HIc.out, HID.out, HBc.out⟩
                case measure => simp [intOf]; omega
        · have hex : ¬ k < rows.length ∨ (k < rows.length ∧ 80 ≤ k) := by omega
          clear hin hI hB
          rcases hex with hlt | ⟨hlt, h80⟩
          all_goals
            go_wp2
            go_ret
            exact ⟨rfl, HB.out⟩
end Go.Proofs.Ytfgplghjgjnggaa.WalkPickWants
