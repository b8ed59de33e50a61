/-
  The walk of the law PickFair: for all weights, sizes and turns it returns true and writes nothing that was there.
  Conditions: none.
-/
import Derived.Test.YtfgplghjgjnggaaArgs
import Derived.Test.YtfgplghjgjnggaaPick
import Derived.IntWalk
import Derived.Lib.Hide
namespace Go.Proofs.Ytfgplghjgjnggaa.WalkPickFair
open Go.RowKit PickC ModL
set_option linter.unusedVariables false
set_option linter.unusedSimpArgs false

def Ids (l : List Ent) (n : Nat) : Prop := l.map (·.id) = (List.range n).map fun k => ((k + 1 : Nat) : Int)
theorem Ids.find {l : List Ent} {n : Nat} (h : Ids l n) (id : Int) (h1 : 1 ≤ id) (h2 : id ≤ n) : ∃ x, findE l id = some x := by
  cases hf : findE l id with
  | some x => exact ⟨x, rfl⟩
  | none =>
    have hm : id ∈ l.map (·.id) := by
      rw [h]
      exact List.mem_map.2 ⟨id.toNat - 1, List.mem_range.2 (by omega), by omega⟩
    obtain ⟨e, he, rfl⟩ := List.mem_map.1 hm
    exact absurd rfl (findE_none hf e he)
theorem Ids.none {l : List Ent} {n : Nat} (h : Ids l n) (id : Int) (h2 : (n : Int) < id) : findE l id = none := by
  cases hf : findE l id with
  | none => rfl
  | some x =>
    obtain ⟨hx, rfl⟩ := findE_some hf
    have hm : x.id ∈ l.map (·.id) := List.mem_map.2 ⟨x, hx, rfl⟩
    rw [h] at hm
    obtain ⟨k, hk, e⟩ := List.mem_map.1 hm
    have := List.mem_range.1 hk
    omega
theorem Ids.len {l : List Ent} {n : Nat} (h : Ids l n) : l.length = n := by have := congrArg List.length h; simpa using this
theorem Ids.upd {l : List Ent} {n : Nat} (h : Ids l n) (id : Int) (g : Ent → Ent) (hg : ∀ e, (g e).id = e.id) : Ids (updE l id g) n := by
  unfold Ids at h ⊢
  rw [← h, updE, List.map_map]
  apply List.map_congr_left
  intro e he
  simp only [Function.comp]
  split
  · exact hg e
  · rfl
theorem Ids.add {l : List Ent} {n : Nat} (h : Ids l n) (x : Ent) (hx : x.id = ((n + 1 : Nat) : Int)) : Ids (l ++ [x]) (n + 1) := by
  unfold Ids at h ⊢
  rw [List.map_append, h, List.range_succ, List.map_append]
  simp [hx]
theorem Ids.mem {l : List Ent} {n : Nat} (h : Ids l n) {e : Ent} (he : e ∈ l) : 1 ≤ e.id ∧ e.id ≤ n := by
  have hm : e.id ∈ l.map (·.id) := List.mem_map.2 ⟨e, he, rfl⟩
  rw [h] at hm
  obtain ⟨k, hk, e⟩ := List.mem_map.1 hm
  have := List.mem_range.1 hk
  omega

/-- The plain law: shares by scores. -/
theorem fair_pair (si sk wi wk K ci ck : Int) (hi0 : 0 ≤ si) (hi1 : si ≤ 200) (hk0 : 0 ≤ sk) (hwi : 1 ≤ wi) (hwi2 : wi ≤ 256) (hwk : 1 ≤ wk) (hwk2 : wk ≤ 256) (hK : 65536 ≤ K) (hci : ci = K / wi) (hck : ck = K / wk)
    (hf : (si - 1) * ci ≤ sk * ck) : si * wk ≤ sk * wi + wi + wk := by
  -- ci > K / wi - 1, ck ≤ K / wk
  have h1 : K < (ci + 1) * wi := by
    have := Int.lt_ediv_add_one_mul_self K (show (0 : Int) < wi by omega)
    rw [hci]; exact this
  have h2 : ck * wk ≤ K := by rw [hck]; exact Int.ediv_mul_le K (by omega)
  rcases Int.lt_or_le si 1 with h0 | h0
  · have : si = 0 := by omega
    subst this
    have : 0 ≤ sk * wi := Int.mul_nonneg hk0 (by omega)
    omega
  · -- (si-1) * ci * wi * wk <= sk * ck * wk * wi <= sk * K * wi
    have a1 : (si - 1) * ci * (wi * wk) ≤ sk * ck * (wi * wk) := Int.mul_le_mul_of_nonneg_right hf (Int.mul_nonneg (by omega) (by omega))
    have a2 : sk * ck * (wi * wk) = sk * wi * (ck * wk) := by ac_rfl
    have a3 : sk * wi * (ck * wk) ≤ sk * wi * K := Int.mul_le_mul_of_nonneg_left h2 (Int.mul_nonneg hk0 (by omega))
    have a4 : (si - 1) * wk * K ≤ (si - 1) * wk * ((ci + 1) * wi) := Int.mul_le_mul_of_nonneg_left (by omega) (Int.mul_nonneg (by omega) (by omega))
    have a5 : (si - 1) * wk * ((ci + 1) * wi) = (si - 1) * ci * (wi * wk) + (si - 1) * (wi * wk) := by
      rw [Int.add_mul, Int.mul_add, Int.one_mul]
      congr 1 <;> ac_rfl
    have a6 : (si - 1) * (wi * wk) ≤ wi * K := by
      have b1 : (si - 1) * wk ≤ 199 * 256 := Int.mul_le_mul (by omega) hwk2 (by omega) (by omega)
      have b2 : (si - 1) * (wi * wk) = wi * ((si - 1) * wk) := by ac_rfl
      rw [b2]
      exact Int.mul_le_mul_of_nonneg_left (by omega) (by omega)
    have a7 : (si - 1) * wk * K ≤ (sk * wi + wi) * K := by
      rw [Int.add_mul]; omega
    have a8 : (si - 1) * wk ≤ sk * wi + wi := Int.le_of_mul_le_mul_right a7 (by omega)
    have a9 : (si - 1) * wk = si * wk - wk := by rw [Int.sub_mul, Int.one_mul]
    omega
/-- The picker, and the law's own row of what was sent. -/
structure Run (w : World) (b m S B : Nat) (l : List Ent) (s : Nat → Int) (n : Nat) : Prop where
  pick : IsPick w b m l
  cell : ∀ k, k < n → w.cell? ⟨S, k, none⟩ = some (.int .i64 (s k))
  free : ∀ k, k < n → w.frozen? ⟨S, k, none⟩ = false
  lt : S < w.heap.size
  far : S ≠ b ∧ S ≠ m ∧ ∀ e ∈ l, e.a ≠ S
  low : B ≤ b ∧ B ≤ m ∧ B ≤ S ∧ ∀ e ∈ l, B ≤ e.a
theorem Run.below {w w' : World} {b m S B n : Nat} {l : List Ent} {s : Nat → Int} (h : Run w b m S B l s n) (hB : Below w.heap.size w w') : Run w' b m S B l s n :=
  ⟨h.pick.below hB, fun k hk => (hB.cell (p := ⟨S, k, none⟩) h.lt).trans (h.cell k hk), fun k hk => (hB.frozen (p := ⟨S, k, none⟩) h.lt).trans (h.free k hk), Nat.lt_of_lt_of_le h.lt hB.size, h.far, h.low⟩
theorem Run.step {w w' : World} {b m S B n : Nat} {l : List Ent} {s : Nat → Int} (h : Run w b m S B l s n) (id : Int) (g : Ent → Ent) (hg : ∀ e, (g e).id = e.id ∧ (g e).a = e.a) (hp : IsPick w' b m (updE l id g)) (hM : Mod (fun k => ∃ e ∈ l, e.a = k) w w') : Run w' b m S B (updE l id g) s n := by
  have hn : ¬ ∃ e ∈ l, e.a = S := fun ⟨e, he, e1⟩ => h.far.2.2 e he e1
  have key : ∀ e ∈ updE l id g, ∃ e0 ∈ l, e.a = e0.a := fun e he => by
    obtain ⟨e0, he0, rfl⟩ := List.mem_map.1 he
    refine ⟨e0, he0, ?_⟩
    split
    · exact (hg e0).2
    · rfl
  refine ⟨hp, fun k hk => (hM.cell (p := ⟨S, k, none⟩) h.lt hn).trans (h.cell k hk), fun k hk => (hM.frozen (p := ⟨S, k, none⟩) h.lt hn).trans (h.free k hk), Nat.lt_of_lt_of_le h.lt hM.size, ⟨h.far.1, h.far.2.1, fun e he => ?_⟩, ⟨h.low.1, h.low.2.1, h.low.2.2.1, fun e he => ?_⟩⟩
  all_goals obtain ⟨e0, he0, h1⟩ := key e he
  · rw [h1]; exact h.far.2.2 e0 he0
  · rw [h1]; exact h.low.2.2.2 e0 he0
theorem Run.add {w w' : World} {b m S B n : Nat} {l : List Ent} {s : Nat → Int} (h : Run w b m S B l s n) (hBw : B ≤ w.heap.size) (x : Ent) (hp : IsPick w' b m (l ++ [x])) (hM : Mod (fun k => k = m) w w') (hx : w.heap.size ≤ x.a) : Run w' b m S B (l ++ [x]) s n := by
  have hlt := h.lt
  refine ⟨hp, fun k hk => (hM.cell (p := ⟨S, k, none⟩) h.lt h.far.2.1).trans (h.cell k hk), fun k hk => (hM.frozen (p := ⟨S, k, none⟩) h.lt h.far.2.1).trans (h.free k hk), Nat.lt_of_lt_of_le h.lt hM.size, ⟨h.far.1, h.far.2.1, fun e he => ?_⟩, ⟨h.low.1, h.low.2.1, h.low.2.2.1, fun e he => ?_⟩⟩
  all_goals rcases List.mem_append.1 he with he | he
  · exact h.far.2.2 e he
  · rw [List.mem_singleton.1 he]; omega
  · exact h.low.2.2.2 e he
  · rw [List.mem_singleton.1 he]; omega
theorem Run.tally {w : World} {b m S B n : Nat} {l : List Ent} {s : Nat → Int} (h : Run w b m S B l s n) (j : Nat) (hj : j < n) (z : Int) : Run (w.setCell ⟨S, j, none⟩ (.int .i64 z)) b m S B l (fun k => if k = j then z else s k) n := by
  refine ⟨⟨h.pick.map.setCell _ _ h.far.2.1, ?_, h.pick.ne, fun e he => ?_, h.pick.apart⟩, fun k hk => ?_, fun k hk => by simp [go_sem, h.free k hk], by simpa using h.lt, h.far, h.low⟩
  · rw [World.cell?_setCell_other _ _ _ _ (by simp; intro e; exact absurd e h.far.1)]; exact h.pick.c0
  · exact (h.pick.ents e he).of_block (Below.heap_setCell _ _ _ _ (h.far.2.2 e he))
  · by_cases e : k = j
    · subst e; simp only [if_true]; exact World.cell?_setCell_same _ _ _ (h.cell k hk)
    · simp only [e, if_false]; rw [World.cell?_setCell_other _ _ _ _ (by simp [e])]; exact h.cell k hk
def Wts (l : List Ent) (ws : List Int) : Prop := ∀ e ∈ l, e.wt = ws.getD (e.id.toNat - 1) 0
def cW (many : Int) (ws : List Int) (j : Nat) : Int := many * 65536 / ws.getD j 0
theorem make_n (k : Nat) (hk : 1 ≤ k ∧ k ≤ 8) (w : World) : (Instr.makeSlice 32 (.int .i64 (k : Int)) (.int .i64 (k : Int))).run Try.prog w =
    .ok (.slice (some ⟨w.heap.size, 0, none⟩) k k) (w.alloc (.cells (Array.replicate k (.int .i64 0)) 3)) := by
  obtain rfl | rfl | rfl | rfl | rfl | rfl | rfl | rfl : k = 1 ∨ k = 2 ∨ k = 3 ∨ k = 4 ∨ k = 5 ∨ k = 6 ∨ k = 7 ∨ k = 8 := by omega
  all_goals kernel_rfl

set_option maxRecDepth 100000 in
set_option maxHeartbeats 16000000 in
theorem walk (v0 : Value) (ws : List Int) (many turns : Int) (w : World) (w0 : Args.IntsAt w v0 ws) (w1 : Args.I64 many) (w2 : Args.I64 turns) :
    Calls Try.prog 4 #[v0, .int .i64 many, .int .i64 turns] w fun e w' => e = .returned (.bool true) ∧ Below w.heap.size w w' := by
  obtain ⟨a0, cap, rfl, hcap1, hcap2, hel⟩ := w0.open
  have HEL := Lib.hid hel
  obtain ⟨m1, m2⟩ := w1
  obtain ⟨t1, t2⟩ := w2
  clear hel w0
  go_enter Try.func4, Try.ntmps4
  go_wp2_with fail
  refine (new_any _).mono ?_
  rintro e w1 ⟨rfl, hp1, hB1, hs1⟩
  have HA1 := Lib.hid (add_ok hp1 3 5 (by unfold okAdd; omega) rfl (by decide))
  have HB1 := Lib.hid hB1
  clear hp1 hB1
  go_wp2_with fail
  refine HA1.out.mono ?_
  rintro e w2 ⟨a, bid, bsc, bok, rfl, hb, hp, hM, ha⟩
  have HW2 := Lib.hid (want_some hp 3 true (by omega) ⟨3, a, 5, bsc, false⟩ rfl)
  have hs2 := hM.size
  have HB2 : Hid (Below w.heap.size w w2) := HB1.out.trans (hM.toBelow (by omega) fun k hk => by omega)
  clear hb hp hM
  go_wp2_with fail
  refine HW2.out.mono ?_
  rintro e w3 ⟨rfl, bid3, bsc3, bok3, hb, hp, hM⟩
  have HN3 := Lib.hid (next_any hp)
  have hs3 := hM.size
  have HB3 : Hid (Below w.heap.size w w3) := HB2.out.trans (hM.toBelow (by omega) fun k hk ⟨e, he, e1⟩ => by
    simp only [List.nil_append, List.mem_singleton] at he
    subst he
    simp only at e1
    omega)
  clear hb hp hM
  go_wp2_with fail
  refine HN3.out.mono ?_
  rintro e w4 ⟨id4, sc4, ok4, rfl, hb, hB4⟩
  obtain ⟨rfl, rfl⟩ : ok4 = true ∧ id4 = 3 := by
    rcases hb with ⟨_, _, _, h⟩ | ⟨h1, e, he, _, _, h2, _, _⟩
    · have := h (wantE bok3 bsc3 true ⟨3, a, 5, bsc, false⟩) (by simp [updE]) trivial
      simp [wantE] at this
    · simp only [updE, List.nil_append, List.map_cons, List.map_nil, if_true, List.mem_singleton] at he
      subst he
      exact ⟨h1, h2.symm⟩
  have hs4 := hB4.size
  have HB4 : Hid (Below w.heap.size w w4) := HB3.out.trans (hB4.mono (by omega))
  clear hb hB4
  by_cases hr : (1 ≤ ws.length ∧ ws.length ≤ 8) ∧ (1 ≤ many ∧ many ≤ 1000) ∧ (0 ≤ turns ∧ turns ≤ 200)
  · obtain ⟨⟨n1, n2⟩, ⟨m3, m4⟩, t3, t4⟩ := hr
    have hmk := make_n ws.length ⟨n1, n2⟩
    go_wp2_with fail
    refine (new_any _).mono ?_
    rintro e w5 ⟨rfl, hp5, hB5, hs5⟩
    have HP5 := Lib.hid hp5
    have HB5 : Hid (Below w.heap.size w w5) := HB4.out.trans (hB5.mono (by omega))
    clear hp5 hB5
    have hcell0 : ∀ k, k < ws.length → (w5.alloc (.cells (Array.replicate ws.length (.int .i64 0)) 3)).cell? ⟨w5.heap.size, k, none⟩ = some (.int .i64 0) := fun k hk => by
      simp [Array.getElem?_replicate, hk]
    have HI0 : Hid (Run (w5.alloc (.cells (Array.replicate ws.length (.int .i64 0)) 3)) (w4.heap.size + 1) w4.heap.size w5.heap.size w.heap.size [] (fun _ => 0) ws.length) := by
      exact ⟨HP5.out.below ((Below.refl _ _).alloc (Nat.le_refl _) _), hcell0, fun k hk => by simp, by simp, ⟨by omega, by omega, by simp⟩, ⟨by omega, by omega, by omega, by simp⟩⟩
    have HB6 : Hid (Below w.heap.size w (w5.alloc (.cells (Array.replicate ws.length (.int .i64 0)) 3))) := HB5.out.alloc (by omega) _
    clear hcell0
    go_wp2_with fail
    clear hmk
    go_loopw [15] (fun i wr => ∃ (k : Nat) (l : List Ent), i = .int .i64 k ∧ k ≤ ws.length ∧ Run wr (w4.heap.size + 1) w4.heap.size w5.heap.size w.heap.size l (fun _ => 0) ws.length ∧ Hid (Ids l k ∧ Wts l ws ∧ (∀ e ∈ l, e.sc = 0 ∧ e.wants = false) ∧ ∀ j, j < k → 1 ≤ ws.getD j 0 ∧ ws.getD j 0 ≤ 256) ∧ Below w.heap.size w wr) (fun i _ => ws.length - (intOf i).toNat)
    case atStart => exact ⟨0, [], rfl, by omega, HI0.out, ⟨rfl, (by intro e he; cases he), by simp, by omega⟩, HB6.out⟩
    case round =>
      obtain ⟨k, l, rfl, hk, hI, HF, hB⟩ := hrel
      have HI := Lib.hid hI
      have HB := Lib.hid hB
      have hszr := hB.size
      by_cases hlt : k < ws.length
      · obtain ⟨b, off, rfl, hb, hv, _⟩ := HEL.out k hlt
        have hv' := (hB.cell (p := ⟨b, off + k, none⟩) hb).trans hv
        by_cases hwk : 1 ≤ ws.getD k 0 ∧ ws.getD k 0 ≤ 256
        · have HA := Lib.hid (add_ok hI.pick ((k : Int) + 1) (ws.getD k 0) (by unfold okAdd; omega) (HF.out.1.none _ (by omega)) (by rw [HF.out.1.len]; omega))
          have HWK := Lib.hid hwk
          obtain ⟨hwk1, hwk2⟩ := hwk
          clear hI hB hv
          obtain ⟨wt, hwt⟩ : ∃ wt, ws.getD k 0 = wt := ⟨_, rfl⟩
          rw [hwt] at hv' HA hwk1 hwk2
          have HWT := Lib.hid hwt
          clear hwt
          go_wp2_with fail
          refine HA.out.mono ?_
          rintro e w6 ⟨a6, bid6, bsc6, bok6, rfl, hb6, hp6, hM6, ha6⟩
          have h0 : bsc6 = 0 := by
            rcases hb6 with ⟨_, _, h, _⟩ | ⟨_, e, he, _, h2, _⟩
            · exact h
            · rw [(HF.out.2.2.1 e he).2] at h2; cases h2
          have HI6 := Lib.hid (HI.out.add hszr _ hp6 hM6 ha6)
          have HB6 : Hid (Below w.heap.size w w6) := HB.out.trans (hM6.toBelow hszr fun k hk => by have := HI.out.low.2.1; omega)
          have HF6 : Hid (Ids (l ++ [⟨(k : Int) + 1, a6, wt, bsc6, false⟩]) (k + 1) ∧ Wts (l ++ [⟨(k : Int) + 1, a6, wt, bsc6, false⟩]) ws ∧ (∀ e ∈ l ++ [⟨(k : Int) + 1, a6, wt, bsc6, false⟩], e.sc = 0 ∧ e.wants = false) ∧ ∀ j, j < k + 1 → 1 ≤ ws.getD j 0 ∧ ws.getD j 0 ≤ 256) := by
            obtain ⟨f1, f2, f3, f4⟩ := HF.out
            refine ⟨f1.add _ (by simp), fun e he => ?_, fun e he => ?_, fun j hj => ?_⟩
            · rcases List.mem_append.1 he with he | he
              · exact f2 e he
              · rw [List.mem_singleton.1 he]
                simp only
                rw [show ((k : Int) + 1).toNat - 1 = k by omega]; exact HWT.out.symm
            · rcases List.mem_append.1 he with he | he
              · exact f3 e he
              · rw [List.mem_singleton.1 he]; exact ⟨h0, rfl⟩
            · rcases Nat.lt_or_ge j k with h | h
              · exact f4 j h
              · obtain rfl : j = k := by omega
                exact HWK.out
          clear hb6 hp6 hM6 h0
          go_wp2_with fail
          go_roundw
          case rel => exact ⟨k + 1, _, by go_num, by omega, HI6.out, HF6.out, HB6.out⟩
          case measure => simp [intOf]; omega
        · clear hI hB hv
          obtain ⟨wt, hwt⟩ : ∃ wt, ws.getD k 0 = wt := ⟨_, rfl⟩
          rw [hwt] at hv' hwk
          clear hwt
          by_cases hw1 : wt < 1
          · go_wp2
            go_ret
            exact ⟨rfl, HB.out⟩
          · have hw2 : 256 < wt := by omega
            go_wp2
            go_ret
            exact ⟨rfl, HB.out⟩
      · obtain rfl : k = ws.length := by omega
        clear hI hB
        obtain ⟨wp, rfl⟩ : ∃ wp : World, wp = wr := ⟨_, rfl⟩
        go_wp2_with fail
        go_loopw [17] (fun i wr => ∃ (k : Nat) (l : List Ent), i = .int .i64 k ∧ k ≤ ws.length ∧ Run wr (w4.heap.size + 1) w4.heap.size w5.heap.size w.heap.size l (fun _ => 0) ws.length ∧ Hid (Ids l ws.length ∧ Wts l ws ∧ ∀ e ∈ l, e.sc = 0 ∧ e.wants = decide (e.id ≤ (k : Int))) ∧ Below w.heap.size w wr) (fun i _ => ws.length - (intOf i).toNat)
        case atStart => exact ⟨0, l, rfl, by omega, HI.out, ⟨HF.out.1, HF.out.2.1, fun e he => ⟨(HF.out.2.2.1 e he).1, by rw [(HF.out.2.2.1 e he).2]; have := HF.out.1.mem he; simp; omega⟩⟩, HB.out⟩
        case round =>
          have HWS := Lib.hid HF.out.2.2.2
          clear HI HF HB
          obtain ⟨k, l, rfl, hk, hI, HF, hB⟩ := hrel
          have HI := Lib.hid hI
          have HB := Lib.hid hB
          have hszr := hB.size
          by_cases hlt : k < ws.length
          · obtain ⟨x, hx⟩ := HF.out.1.find ((k : Int) + 1) (by omega) (by omega)
            have HW := Lib.hid (want_some hI.pick ((k : Int) + 1) true (by omega) x hx)
            clear hI hB hx
            go_wp2_with fail
            refine HW.out.mono ?_
            rintro e w6 ⟨rfl, bid6, bsc6, bok6, hb6, hp6, hM6⟩
            have h0 : bsc6 = 0 := by
              rcases hb6 with ⟨_, _, h, _⟩ | ⟨_, e, he, _, _, _, h, _⟩
              · exact h
              · rw [← h]; exact (HF.out.2.2 e he).1
            have HI6 := Lib.hid (HI.out.step ((k : Int) + 1) (wantE bok6 bsc6 true) (fun e => ⟨rfl, rfl⟩) hp6 hM6)
            have HB6 : Hid (Below w.heap.size w w6) := HB.out.trans (hM6.toBelow hszr fun k hk ⟨e, he, e1⟩ => by have := HI.out.low.2.2.2 e he; omega)
            have HF6 : Hid (Ids (updE l ((k : Int) + 1) (wantE bok6 bsc6 true)) ws.length ∧ Wts (updE l ((k : Int) + 1) (wantE bok6 bsc6 true)) ws ∧ ∀ e ∈ updE l ((k : Int) + 1) (wantE bok6 bsc6 true), e.sc = 0 ∧ e.wants = decide (e.id ≤ ((k + 1 : Nat) : Int))) := by
              obtain ⟨f1, f2, f3⟩ := HF.out
              refine ⟨f1.upd _ _ (fun e => rfl), fun e he => ?_, fun e he => ?_⟩
              all_goals
                obtain ⟨e0, he0, rfl⟩ := List.mem_map.1 he
              · split
                · exact f2 e0 he0
                · exact f2 e0 he0
              · have h1 := f3 e0 he0
                split
                · rename_i hid
                  refine ⟨?_, ?_⟩
                  · simp only [wantE, wantSc, h0, h1.1]; split <;> omega
                  · show true = _
                    symm
                    exact decide_eq_true (by show e0.id ≤ _; omega)
                · rename_i hid
                  refine ⟨h1.1, ?_⟩
                  rw [h1.2]; congr 1; rw [eq_iff_iff]; omega
            clear hb6 hp6 hM6 h0
            go_wp2_with fail
            go_roundw
            case rel => exact ⟨k + 1, _, by go_num, by omega, HI6.out, HF6.out, HB6.out⟩
            case measure => simp [intOf]; omega
          · obtain rfl : k = ws.length := by omega
            clear hI hB
            obtain ⟨wq, rfl⟩ : ∃ wq : World, wq = wr := ⟨_, rfl⟩
            have hc0 : ∀ j, 0 ≤ cW many ws j := fun j => by
              unfold cW
              by_cases hj : j < ws.length
              · exact Int.ediv_nonneg (by omega) (by have := HWS.out j hj; omega)
              · rw [List.getD_eq_getElem?_getD, List.getElem?_eq_none (by omega)]; simp
            have hc1 : ∀ j, j < ws.length → cW many ws j ≤ 65536000 := fun j hj => by
              have h1 : cW many ws j ≤ many * 65536 := Int.ediv_le_self _ (by omega)
              omega
            have HC0 := Lib.hid hc0
            have HC1 := Lib.hid hc1
            clear hc0 hc1
            go_wp2_with fail
            go_loopw [19] (fun i wr => ∃ (t : Nat) (l : List Ent) (s : Nat → Int), i = .int .i64 t ∧ (t : Int) ≤ turns ∧ Run wr (w4.heap.size + 1) w4.heap.size w5.heap.size w.heap.size l s ws.length ∧ Hid (Ids l ws.length ∧ Wts l ws ∧ (∀ e ∈ l, e.wants = true ∧ e.sc = s (e.id.toNat - 1) * cW many ws (e.id.toNat - 1)) ∧ (∀ j, j < ws.length → 0 ≤ s j ∧ s j ≤ t) ∧ ∀ j k, j < ws.length → k < ws.length → (s j - 1) * cW many ws j ≤ s k * cW many ws k) ∧ Below w.heap.size w wr) (fun i _ => (turns - intOf i).toNat)
            case atStart => exact ⟨0, l, _, rfl, by omega, HI.out, ⟨HF.out.1, HF.out.2.1, fun e he => ⟨by rw [(HF.out.2.2 e he).2]; have := HF.out.1.mem he; simp; omega, by rw [(HF.out.2.2 e he).1, Int.zero_mul]⟩, by simp, fun j k hj hk => by
              have := HC0.out j
              rw [Int.zero_mul, Int.zero_sub, Int.neg_mul, Int.one_mul]; omega⟩, HB.out⟩
            case round =>
              clear HI HF HB
              obtain ⟨t, l, s, rfl, ht, hI, HF, hB⟩ := hrel
              have HI := Lib.hid hI
              have HB := Lib.hid hB
              have hszr := hB.size
              by_cases hlt : (t : Int) < turns
              · have HN := Lib.hid (next_any hI.pick)
                clear hI hB
                go_wp2_with fail
                refine HN.out.mono ?_
                rintro e w6 ⟨id6, sc6, ok6, rfl, hb6, hB6⟩
                obtain ⟨f1, f2, f3, f4, f5⟩ := HF.out
                rcases hb6 with ⟨_, _, _, h4⟩ | ⟨rfl, x, hx, _, _, rfl, rfl, hmin⟩
                · exfalso
                  obtain ⟨x, hx⟩ := f1.find 1 (by omega) (by omega)
                  obtain ⟨hxl, _⟩ := findE_some hx
                  have := h4 x hxl trivial
                  rw [(f3 x hxl).1] at this; cases this
                · have hxm := f1.mem hx
                  obtain ⟨j, hj⟩ : ∃ j : Nat, x.id = (j : Int) + 1 := ⟨x.id.toNat - 1, by omega⟩
                  have hjn : j < ws.length := by omega
                  have hj1 : x.id.toNat - 1 = j := by omega
                  have hfx : findE l x.id = some x := findE_mem HI.out.pick.map.1 hx
                  have h6 := HI.out.below hB6
                  have hxsc := (f3 x hx).2
                  rw [hj1] at hxsc
                  have hle : ∀ k, k < ws.length → s j * cW many ws j ≤ s k * cW many ws k := fun k hk => by
                    obtain ⟨y, hy⟩ := f1.find ((k : Int) + 1) (by omega) (by omega)
                    obtain ⟨hyl, hyi⟩ := findE_some hy
                    have h := hmin y hyl trivial (f3 y hyl).1
                    unfold ahead at h
                    have h2 := (f3 y hyl).2
                    rw [show y.id.toNat - 1 = k by omega] at h2
                    have h3 : x.sc ≤ y.sc := by
                      rcases Int.lt_or_le y.sc x.sc with h5 | h5
                      · exact absurd (Or.inl h5) h
                      · exact h5
                    rw [hxsc, h2] at h3; exact h3
                  have hs6 := hB6.size
                  have HB6 : Hid (Below w.heap.size w w6) := HB.out.trans (hB6.mono hszr)
                  have H6 := Lib.hid h6
                  have HS := Lib.hid (sent_some h6.pick x.id many (by omega) x hfx (by omega))
                  have HX := Lib.hid (And.intro hx (And.intro hxsc hle))
                  have HJ := Lib.hid hj
                  have hcs := h6.cell j hjn
                  have hfs := h6.free j hjn
                  have hsb := f4 j hjn
                  rw [hj] at HS
                  rw [hj]
                  clear hB6 h6 hfx hx hxsc hle hmin hj1 hxm f1 f2 f3 f4 f5 hj
                  go_wp2_with fail
                  refine HS.out.mono ?_
                  rintro e w7 ⟨rfl, hp7, hM7⟩
                  have hSn : ¬ ∃ e ∈ l, e.a = w5.heap.size := fun ⟨e, he, e1⟩ => H6.out.far.2.2 e he e1
                  have hcs7 := (hM7.cell (p := ⟨w5.heap.size, j, none⟩) H6.out.lt hSn).trans hcs
                  have hfs7 := (hM7.frozen (p := ⟨w5.heap.size, j, none⟩) H6.out.lt hSn).trans hfs
                  have H7 := Lib.hid ((H6.out.step ((j : Int) + 1) (sentE many) (fun e => ⟨rfl, rfl⟩) hp7 hM7).tally j hjn (s j + 1))
                  have HB7 : Hid (Below w.heap.size w (w7.setCell ⟨w5.heap.size, j, none⟩ (.int .i64 (s j + 1)))) := (HB6.out.trans (hM7.toBelow (by omega) fun k hk ⟨e, he, e1⟩ => by have := H6.out.low.2.2.2 e he; omega)).setCell (by simp only; omega) _
                  have HF7 : Hid (Ids (updE l ((j : Int) + 1) (sentE many)) ws.length ∧ Wts (updE l ((j : Int) + 1) (sentE many)) ws ∧ (∀ e ∈ updE l ((j : Int) + 1) (sentE many), e.wants = true ∧ e.sc = (fun k => if k = j then s j + 1 else s k) (e.id.toNat - 1) * cW many ws (e.id.toNat - 1)) ∧ (∀ k, k < ws.length → 0 ≤ (fun k => if k = j then s j + 1 else s k) k ∧ (fun k => if k = j then s j + 1 else s k) k ≤ ((t + 1 : Nat) : Int)) ∧ ∀ p q, p < ws.length → q < ws.length → ((fun k => if k = j then s j + 1 else s k) p - 1) * cW many ws p ≤ (fun k => if k = j then s j + 1 else s k) q * cW many ws q) := by
                    obtain ⟨f1, f2, f3, f4, f5⟩ := HF.out
                    obtain ⟨hx, hxsc, hle⟩ := HX.out
                    have hcj := HC0.out j
                    have hcj1 := HC1.out j hjn
                    refine ⟨f1.upd _ _ (fun e => rfl), fun e he => ?_, fun e he => ?_, fun k hk => ?_, fun p q hp hq => ?_⟩
                    · obtain ⟨e0, he0, rfl⟩ := List.mem_map.1 he
                      split
                      · exact f2 e0 he0
                      · exact f2 e0 he0
                    · obtain ⟨e0, he0, rfl⟩ := List.mem_map.1 he
                      have hm0 := f1.mem he0
                      by_cases hi : e0.id = (j : Int) + 1
                      · have hee : e0 = x := ids_inj HI.out.pick.map.1 he0 hx (by rw [hi, HJ.out])
                        subst hee
                        have e1 : e0.id.toNat - 1 = j := by omega
                        have hwt := f2 e0 he0
                        rw [e1] at hwt
                        rw [if_pos hi]
                        refine ⟨(f3 e0 he0).1, ?_⟩
                        show sentSc e0 many = (if e0.id.toNat - 1 = j then s j + 1 else s (e0.id.toNat - 1)) * cW many ws (e0.id.toNat - 1)
                        rw [e1, if_pos rfl, sentSc, hxsc, hwt]
                        have e2 : many * 65536 / ws.getD j 0 = cW many ws j := rfl
                        rw [e2, Int.add_mul, Int.one_mul]
                        have hbd : s j * cW many ws j ≤ 200 * 65536000 := Int.mul_le_mul (by omega) hcj1 hcj (by omega)
                        omega
                      · rw [if_neg hi]
                        refine ⟨(f3 e0 he0).1, ?_⟩
                        show e0.sc = (if e0.id.toNat - 1 = j then s j + 1 else s (e0.id.toNat - 1)) * cW many ws (e0.id.toNat - 1)
                        rw [if_neg (by omega)]; exact (f3 e0 he0).2
                    · show 0 ≤ (if k = j then s j + 1 else s k) ∧ (if k = j then s j + 1 else s k) ≤ _
                      have := f4 k hk
                      have := f4 j hjn
                      split <;> omega
                    · show ((if p = j then s j + 1 else s p) - 1) * cW many ws p ≤ (if q = j then s j + 1 else s q) * cW many ws q
                      have hq0 := HC0.out q
                      by_cases hp1 : p = j
                      · rw [if_pos hp1, hp1, Int.add_sub_cancel]
                        by_cases hq1 : q = j
                        · rw [if_pos hq1, hq1, Int.add_mul, Int.one_mul]; omega
                        · rw [if_neg hq1]; exact hle q hq
                      · rw [if_neg hp1]
                        by_cases hq1 : q = j
                        · rw [if_pos hq1, hq1, Int.add_mul, Int.one_mul]
                          have := f5 p j hp hjn
                          omega
                        · rw [if_neg hq1]; exact f5 p q hp hq
                  have hsb1 := hsb.1
                  have hsb2 := hsb.2
                  rw [hs5] at hcs7 hfs7
                  clear hp7 hM7 hSn hcs hfs hsb HX HS HN HJ
                  obtain ⟨sj, hsj⟩ : ∃ sj, s j = sj := ⟨_, rfl⟩
                  rw [hsj] at hcs7 hsb1 hsb2 H7 HB7 HF7
                  clear hsj
                  go_wp2_with fail
                  go_roundw
                  case rel => exact ⟨t + 1, updE l ((j : Int) + 1) (sentE many), (fun k => if k = j then sj + 1 else s k), by go_num, by omega, by rw [← hs5]; exact H7.out, HF7.out, by rw [← hs5]; exact HB7.out⟩
                  case measure => simp [intOf]; omega
              · have hte : (t : Int) = turns := by omega
                clear hI hB
                obtain ⟨wz, rfl⟩ : ∃ wz : World, wz = wr := ⟨_, rfl⟩
                have HPAIR : Hid (∀ p q, p < ws.length → q < ws.length → s p * ws.getD q 0 ≤ s q * ws.getD p 0 + ws.getD p 0 + ws.getD q 0) := fun p q hp hq => by
                  obtain ⟨f1, f2, f3, f4, f5⟩ := HF.out
                  have g1 := f4 p hp
                  have g2 := f4 q hq
                  exact fair_pair (s p) (s q) (ws.getD p 0) (ws.getD q 0) (many * 65536) (cW many ws p) (cW many ws q) g1.1 (by omega) g2.1 (HWS.out p hp).1 (HWS.out p hp).2 (HWS.out q hq).1 (HWS.out q hq).2 (by omega) rfl rfl (f5 p q hp hq)
                have HSB : Hid (∀ j, j < ws.length → 0 ≤ s j ∧ s j ≤ 200) := fun j hj => by have := HF.out.2.2.2.1 j hj; omega
                have HSC : Hid (∀ j, j < ws.length → wz.cell? ⟨w4.heap.size + 2, j, none⟩ = some (.int .i64 (s j))) := fun j hj => by rw [← hs5]; exact HI.out.cell j hj
                have HWC : Hid (∀ j, j < ws.length → ∃ b off, a0 = some ⟨b, off, none⟩ ∧ wz.cell? ⟨b, off + j, none⟩ = some (.int .i64 (ws.getD j 0))) := fun j hj => by
                  obtain ⟨b, off, e, hb, hv, _⟩ := HEL.out j hj
                  exact ⟨b, off, e, (HB.out.cell (p := ⟨b, off + j, none⟩) hb).trans hv⟩
                clear HF HI HEL HC0 HC1
                go_wp2_with fail
                go_loopw [23] (fun i wr => ∃ p : Nat, i = .int .i64 p ∧ p ≤ ws.length ∧ Hid (∀ a, wr.cell? a = wz.cell? a) ∧ Below w.heap.size w wr) (fun i _ => ws.length - (intOf i).toNat)
                case atStart => exact ⟨0, rfl, by omega, fun _ => rfl, HB.out⟩
                case round =>
                  obtain ⟨p, rfl, hp, HSAME, hBp⟩ := hrel
                  have HBp := Lib.hid hBp
                  clear hBp
                  by_cases hpn : p < ws.length
                  · obtain ⟨wy, rfl⟩ : ∃ wy : World, wy = wr := ⟨_, rfl⟩
                    go_wp2_with fail
                    go_loopw [24] (fun i wr => ∃ q : Nat, i = .int .i64 q ∧ q ≤ ws.length ∧ Hid (∀ a, wr.cell? a = wz.cell? a) ∧ Below w.heap.size w wr) (fun i _ => ws.length - (intOf i).toNat)
                    case atStart => exact ⟨0, rfl, by omega, HSAME.out, HBp.out⟩
                    case round =>
                      obtain ⟨q, rfl, hq, HSAME2, hBq⟩ := hrel
                      have HBq := Lib.hid hBq
                      clear hBq
                      by_cases hqn : q < ws.length
                      · obtain ⟨b, off, rfl, c1⟩ := HWC.out p hpn
                        obtain ⟨b2, off2, e2, c2⟩ := HWC.out q hqn
                        simp only [Option.some.injEq, Addr.mk.injEq, and_true] at e2
                        obtain ⟨rfl, rfl⟩ := e2
                        have c3 := HSC.out p hpn
                        have c4 := HSC.out q hqn
                        rw [← HSAME2.out] at c1 c2 c3 c4
                        have hpair := HPAIR.out p q hpn hqn
                        have b1 := HSB.out p hpn
                        have b2 := HSB.out q hqn
                        have b3 := HWS.out p hpn
                        have b4 := HWS.out q hqn
                        have i1 : (0 : Int) ≤ (p : Int) := by omega
                        have i2 : (p : Int) < (ws.length : Int) := by omega
                        have i3 : (0 : Int) ≤ (q : Int) := by omega
                        have i4 : (q : Int) < (ws.length : Int) := by omega
                        generalize ws.getD p 0 = wp' at *
                        generalize ws.getD q 0 = wq' at *
                        generalize s p = sp at *
                        generalize s q = sq at *
                        have hA1 : 0 ≤ sp * wq' := Int.mul_nonneg b1.1 (by omega)
                        have hA2 : sp * wq' ≤ 200 * 256 := Int.mul_le_mul b1.2 b4.2 (by omega) (by omega)
                        have hB1 : 0 ≤ sq * wp' := Int.mul_nonneg b2.1 (by omega)
                        have hB2 : sq * wp' ≤ 200 * 256 := Int.mul_le_mul b2.2 b3.2 (by omega) (by omega)
                        have e1 : IntKind.i64.wrap (sp * wq') = sp * wq' := IntWalk.i64_in _ (by omega)
                        have e2 : IntKind.i64.wrap (sq * wp') = sq * wp' := IntWalk.i64_in _ (by omega)
                        have e3 : IntKind.i64.wrap (sq * wp' + wp') = sq * wp' + wp' := IntWalk.i64_in _ (by omega)
                        have e4 : IntKind.i64.wrap (sq * wp' + wp' + wq') = sq * wp' + wp' + wq' := IntWalk.i64_in _ (by omega)
                        have hd : decide (sq * wp' + wp' + wq' < sp * wq') = false := by simp; omega
                        clear b1 b2 b3 b4 HPAIR HSC HWC HSB HWS
                        go_wp2_with fail
                        go_quiet (fail)
                        go_wp2
                        go_roundw
                        case rel => exact ⟨q + 1, by go_num, by omega, HSAME2.out, below_drewN HBq.out _⟩
                        case measure => simp [intOf]; omega
                      · obtain rfl : q = ws.length := by omega
                        go_wp2
                        go_roundw
                        case rel => exact ⟨p + 1, by go_num, by omega, HSAME2.out, HBq.out⟩
                        case measure => simp [intOf]; omega
                  · obtain rfl : p = ws.length := by omega
                    go_wp2
                    go_ret
                    exact ⟨rfl, HBp.out⟩
  · have hr' : ws.length < 1 ∨ (1 ≤ ws.length ∧ 8 < ws.length) ∨ (1 ≤ ws.length ∧ ws.length ≤ 8 ∧ many < 1) ∨ (1 ≤ ws.length ∧ ws.length ≤ 8 ∧ 1 ≤ many ∧ 1000 < many) ∨ (1 ≤ ws.length ∧ ws.length ≤ 8 ∧ 1 ≤ many ∧ many ≤ 1000 ∧ turns < 0) ∨ (1 ≤ ws.length ∧ ws.length ≤ 8 ∧ 1 ≤ many ∧ many ≤ 1000 ∧ 0 ≤ turns ∧ 200 < turns) := by omega
    clear hr
    rcases hr' with q1 | ⟨q1, q2⟩ | ⟨q1, q2, q3⟩ | ⟨q1, q2, q3, q4⟩ | ⟨q1, q2, q3, q4, q5⟩ | ⟨q1, q2, q3, q4, q5, q6⟩
    all_goals
      go_wp2
      go_ret
      exact ⟨rfl, HB4.out⟩
end Go.Proofs.Ytfgplghjgjnggaa.WalkPickFair
