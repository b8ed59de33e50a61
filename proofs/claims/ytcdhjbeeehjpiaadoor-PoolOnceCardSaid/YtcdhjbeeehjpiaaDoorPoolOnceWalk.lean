/-
  The walk of the law PoolOnce: for every steps it returns true and writes nothing that was there.
  Conditions: errors.errorType starts as the program's text lays it.
-/
import Derived.Test.YtcdhjbeeehjpiaaDoorPoolInv
import Derived.Test.YtcdhjbeeehjpiaaDoorQueue
import Derived.Test.YtcdhjbeeehjpiaaDoorArgs
import Derived.Test.YtcdhjbeeehjpiaaDoorTold
import Derived.Deep.CutBlock
import Derived.Deep.RegionHeld3
namespace Go.Proofs.YtcdhjbeeehjpiaaDoor.WalkPoolOnce
open Go.RowKit MapsL ModL RowsK RowsM Back LineC PoolC QueL
set_option linter.unusedSimpArgs false
set_option linter.unusedVariables false

theorem tok_x : tokL (⟨#[120]⟩ : ByteArray).data.toList = true := by decide
theorem tok_a : tokL (⟨#[97]⟩ : ByteArray).data.toList = true := by decide
theorem tok_b : tokL (⟨#[98]⟩ : ByteArray).data.toList = true := by decide
theorem a_not_b : ((⟨#[97]⟩ : ByteArray).toList == (⟨#[98]⟩ : ByteArray).toList) = false := by kernel_rfl
/-- What is there between two steps. -/
def St (w wr : World) (b m : Nat) (many last : Int) (qv : Value) (ids : List Int) : Prop :=
  ∃ B L, bids B = ids ∧ PS w wr (fun k => qv.ownBlock = some k, wr) b m many last 0 B L ∧ Inv many last B L ∧ Que wr w.heap.size 3 qv (ids.map (Value.int .i64))
theorem St.base {w wr : World} {b m : Nat} {many last : Int} {qv : Value} {ids : List Int} (h : St w wr b m many last qv ids) : Below w.heap.size w wr := by
  obtain ⟨B, L, _, h1, _⟩ := h
  exact h1.base
theorem St.below {w wr w' : World} {b m : Nat} {many last : Int} {qv : Value} {ids : List Int} (h : St w wr b m many last qv ids) (hB : Below wr.heap.size wr w') : St w w' b m many last qv ids := by
  obtain ⟨B, L, h0, h1, h2, h3⟩ := h
  exact ⟨B, L, h0, (h1.below hB).rebase, h2, h3.below hB⟩
/-- The same, and the law's own array A. -/
def StX (w wr : World) (A b m : Nat) (many last : Int) (qv : Value) (ids : List Int) : Prop :=
  ∃ B L, bids B = ids ∧ PS w wr (fun k => qv.ownBlock = some k ∨ k = A, wr) b m many last 0 B L ∧ Inv many last B L ∧ Que wr w.heap.size 3 qv (ids.map (Value.int .i64))
theorem St.belowX {w wr w' : World} {b m : Nat} {many last : Int} {qv : Value} {ids : List Int} (h : St w wr b m many last qv ids) (hB : Below wr.heap.size wr w') (hs : wr.heap.size < w'.heap.size) : StX w w' wr.heap.size b m many last qv ids := by
  obtain ⟨B, L, h0, h1, h2, h3⟩ := h
  refine ⟨B, L, h0, h1.step (Mod.ofBelow hB (fun k h1 h2 => by omega)) (fun k hk => ?_), h2, h3.below hB⟩
  rcases hk with hk | rfl
  · exact ⟨Nat.lt_of_lt_of_le (h3.lt k hk).2 hB.size, .inl hk⟩
  · exact ⟨hs, .inr (Nat.le_refl _)⟩
theorem take_st {w0 w : World} {F : (Nat → Prop) × World} {b m : Nat} {many last : Int} {now : Int} {B : List (Int × ByteArray)} {L : List Link} (h : PS w0 w F b m many last now B L) (hI : Inv many last B L) (t : ByteArray) (ht : tokL t.data.toList = true) (hmany : 1 ≤ many ∧ many ≤ 8) (hlast : 0 ≤ last ∧ last ≤ 1000) :
    Calls Tryd.prog 9 #[.pointer (some ⟨b, 0, none⟩), .string t] w fun e w' =>
      ((B.length : Int) = many ∧ e = .returned (.tuple #[.int .i64 0, .bool false, .iface 72 (.int .i64 4)]) ∧ PS w0 w' F b m many last now B L) ∨
      (∃ t0 L', e = .returned (.tuple #[.int .i64 (last + 1), .bool true, .nilIface]) ∧ last + 1 ∉ bids B ∧ Inv many (last + 1) (B ++ [(last + 1, t0)]) L' ∧ PS w0 w' F b m many (last + 1) now (B ++ [(last + 1, t0)]) L') ∨
      (∃ id t0 L', e = .returned (.tuple #[.int .i64 id, .bool false, .nilIface]) ∧ (1 ≤ id ∧ id ≤ last) ∧ id ∉ bids B ∧ Inv many last (B ++ [(id, t0)]) L' ∧ PS w0 w' F b m many last now (B ++ [(id, t0)]) L') := by
  refine (take_inv h hI t ht hmany hlast).mono ?_
  rintro e w' (h | ⟨L', h1, h2, h3, h4⟩ | ⟨id, L', h1, h2, h3, h4, h5⟩)
  · exact .inl h
  · exact .inr (.inl ⟨t, L', h1, h2, h3, h4⟩)
  · exact .inr (.inr ⟨id, t, L', h1, h2, h3, h4, h5⟩)
theorem st_len {w W : World} {b m : Nat} {many last : Int} {a : Option Addr} {n c : Nat} {ids : List Int} (hq : Que W w.heap.size 3 (.slice a n c) (ids.map (Value.int .i64))) : ids.length = n := by
  obtain ⟨_, _, e, _⟩ := hq.slice
  simp only [Value.slice.injEq, List.length_map] at e
  exact e.2.1.symm
theorem busy_st {w W : World} {b m : Nat} {many last : Int} {a : Option Addr} {n c : Nat} {ids : List Int} (h : St w W b m many last (.slice a n c) ids) : Calls Tryd.prog 12 #[.pointer (some ⟨b, 0, none⟩)] W fun e w' => e = .returned (.int .i64 (n : Nat)) ∧ W = w' := by
  obtain ⟨B, L, h0, h1, h2, h3⟩ := h
  refine (busy_ps h1).mono ?_
  rintro e w' ⟨rfl, rfl⟩
  have := st_len (b := b) (m := m) (many := many) (last := last) h3
  rw [← this, ← h0]
  exact ⟨by simp [bids], rfl⟩
def StA (w wr : World) (b m : Nat) (many last : Int) (qv : Value) (ids : List Int) (na : Nat) : Prop :=
  ∃ B L, bids B = ids ∧ PS w wr (fun k => qv.ownBlock = some k, wr) b m many last 0 B L ∧ Inv many last B L ∧ Que wr w.heap.size 3 qv (ids.map (Value.int .i64)) ∧ (L.filter (isTo ⟨#[97]⟩)).length = na
theorem inv_len {many last : Int} {B : List (Int × ByteArray)} {L : List Link} (h : Inv many last B L) (hm : many ≤ 8) : L.length ≤ 8 := by have := h.cap; omega
theorem idle_a {w W : World} {b m : Nat} {many last : Int} {qv : Value} {ids : List Int} (h : St w W b m many last qv ids) (hm : many ≤ 8) : Calls Tryd.prog 13 #[.pointer (some ⟨b, 0, none⟩), .string ⟨#[97]⟩] W fun e w' => ∃ na : Nat, e = .returned (.int .i64 (na : Nat)) ∧ na ≤ 8 ∧ StA w w' b m many last qv ids na := by
  obtain ⟨B, L, h0, h1, h2, h3⟩ := h
  have hl := inv_len h2 hm
  refine (idle_ps h1 ⟨#[97]⟩ (by omega)).mono ?_
  rintro e w' ⟨rfl, hp⟩
  exact ⟨_, rfl, Nat.le_trans (List.length_filter_le _ _) hl, B, L, h0, hp.rebase, h2, h3.of_block hp.same, rfl⟩
theorem idle_b {w W : World} {b m : Nat} {many last : Int} {a : Option Addr} {n c : Nat} {ids : List Int} {na : Nat} (h : StA w W b m many last (.slice a n c) ids na) (hm : many ≤ 8) : Calls Tryd.prog 13 #[.pointer (some ⟨b, 0, none⟩), .string ⟨#[98]⟩] W fun e w' => ∃ nb : Nat, e = .returned (.int .i64 (nb : Nat)) ∧ nb ≤ 8 ∧ n ≤ 8 ∧ (na : Int) + nb + n ≤ many ∧ St w w' b m many last (.slice a n c) ids := by
  obtain ⟨B, L, h0, h1, h2, h3, h4⟩ := h
  have hl := inv_len h2 hm
  have hn := st_len (b := b) (m := m) (many := many) (last := last) h3
  have hbn : B.length = n := by rw [← hn, ← h0]; simp [bids]
  have hcap := h2.cap
  refine (idle_ps h1 ⟨#[98]⟩ (by omega)).mono ?_
  rintro e w' ⟨rfl, hp⟩
  have htc := two_counts ⟨#[97]⟩ ⟨#[98]⟩ a_not_b L
  exact ⟨_, rfl, Nat.le_trans (List.length_filter_le _ _) hl, by omega, by omega, B, L, h0, hp.rebase, h2, h3.of_block hp.same⟩
set_option maxRecDepth 100000 in
set_option maxHeartbeats 8000000 in
theorem walk (many : Int) (v0 : Value) (rows : List (List Int)) (w : World) (bm : Args.I64 many) (hr : Args.IntRowsAt w v0 rows) (hg : w.cell? ⟨0, 0, none⟩ = some (.iface 178 (.agg #[.pointer (some ⟨9, 25, none⟩)]))) :
    Calls Tryd.prog 3 #[.int .i64 many, v0] w fun e w' => e = .returned (.bool true) ∧ Below w.heap.size w w' := by
  have HGc : Hid (∀ W', Below w.heap.size w W' → W'.cell? ⟨0, 0, none⟩ = some (.iface 178 (.agg #[.pointer (some ⟨9, 25, none⟩)]))) := fun W' hB => (hB.cell (p := ⟨0, 0, none⟩) (block_lt_of_cell hg)).trans hg
  obtain ⟨a1, cap, rfl, hcap, hcap2, hel⟩ := hr.open
  have HEL := Lib.hid hel
  clear hel hr hg
  obtain ⟨bm1, bm2⟩ := bm
  go_enter Tryd.func3, Tryd.ntmps3
  go_upto_region 9 with (first
    | (go_at_call 8; (with_reducible refine (new_ps (w0 := w) (Below.refl _ _) (by omega)).mono ?_); rintro e w1 ⟨rfl, hp⟩; have H1 := Lib.hid hp; clear hp)
    | (go_at_call 9; (with_reducible refine (take_new_ps H1.out _ tok_x (by simp) (by simp) (by omega) (by omega) (by simp)).mono ?_); rintro e w2 ⟨rfl, hp⟩; have H2 : Hid (PS w w2 (fun _ => False, w1) (w.heap.size + 1) w.heap.size 1 1 0 [(1, ⟨#[120]⟩)] []) := hp; clear hp)
    | (go_at_call 9; (with_reducible refine (take_full_ps H2.out _ tok_x (by simp) (by simp)).mono ?_); rintro e w3 ⟨rfl, hp⟩; have HB3 := Lib.hid hp.base; clear hp)
    | (go_at_call 10; (with_reducible refine (ToldC.error_any (.err 4) 4 _ (HGc.out _ HB3.out)).mono ?_); rintro e w4 ⟨rfl, hB⟩; have HB4 := Lib.hid (HB3.out.trans (hB.mono HB3.out.size)); clear hB))
  clear H1 H2 HB3
  by_cases hm : 1 ≤ many ∧ many ≤ 8
  · obtain ⟨hm1, hm2⟩ := hm
    go_wp2_with (go_at_call 8; (with_reducible refine (new_ps (w0 := w) HB4.out ⟨hm1, hm2⟩).mono ?_); rintro e w5 ⟨rfl, hp⟩; have H5 := Lib.hid hp; clear hp)
    have H6 : Hid (St w w5 (w4.heap.size + 1) w4.heap.size many 0 (.slice none 0 0) []) := ⟨[], [], rfl, H5.out.step (Mod.refl _ _) (fun k hk => by cases hk), inv_nil many hm1, Que.nil _ _ _⟩
    obtain ⟨pb, hpb⟩ : ∃ pb, w4.heap.size + 1 = pb := ⟨_, rfl⟩
    obtain ⟨pm, hpm⟩ : ∃ pm, w4.heap.size = pm := ⟨_, rfl⟩
    rw [hpb, hpm] at H6
    rw [hpb]
    clear H5 hpb hpm
    go_loopw [16, 17, 18] (fun bv lv iv wr => ∃ (k : Nat) (last : Int) (qa : Option Addr) (qn qc : Nat) (ids : List Int), iv = .int .i64 k ∧ lv = .int .i64 last ∧ bv = .slice qa qn qc ∧ k ≤ rows.length ∧ k ≤ 80 ∧ 0 ≤ last ∧ last ≤ k ∧ Hid (St w wr pb pm many last (.slice qa qn qc) ids)) (fun _ _ iv _ => 80 - (intOf iv).toNat)
    case atStart => exact ⟨0, 0, none, 0, 0, [], rfl, rfl, rfl, Nat.zero_le _, Nat.zero_le _, by omega, by omega, H6⟩
    case round =>
      obtain ⟨k, last, qa, qn, qc, ids, rfl, rfl, rfl, hk1, hk2, hl0, hlk, HS⟩ := hrel
      have hB := HS.out.base
      by_cases hin : k < rows.length ∧ k < 80
      · obtain ⟨h1, h2⟩ := hin
        obtain ⟨b, off, x, rfl, hb, hv, hx⟩ := HEL.out k h1
        obtain ⟨ax, capx, rfl, hcx, hcx2, helx⟩ := hx.open
        have HX := Lib.hid helx
        have hI := Lib.hid hx.2
        clear helx hx
        have hv' := (hB.cell (p := ⟨b, off + k, none⟩) hb).trans hv
        generalize rows.getD k [] = r at *
        clear hv
        have hszr := hB.size
        obtain ⟨wo, rfl⟩ : ∃ wo : World, wo = wr := ⟨_, rfl⟩
        go_upto_block 2 with fail
        go_cut [20] from 69 to 196 (fun _ wc => Below wo.heap.size wo wc ∧ wo.heap.size < wc.heap.size ∧ wc.cell? ⟨wo.heap.size, 0, none⟩ = some (.int .i64 (r.getD 0 0)) ∧ wc.cell? ⟨wo.heap.size, 1, none⟩ = some (.int .i64 (r.getD 1 0)))
        case first =>
          go_wp2_with fail
          go_loopw [20] (fun jv wi => ∃ (j : Nat), jv = .int .i64 j ∧ j ≤ r.length ∧ j ≤ 2 ∧ Below wo.heap.size wo wi ∧ wo.heap.size < wi.heap.size ∧ Hid (∀ t, t < 2 → wi.frozen? ⟨wo.heap.size, t, none⟩ = false ∧ wi.cell? ⟨wo.heap.size, t, none⟩ = some (.int .i64 (Args.cp r j t)))) (fun jv _ => 2 - (intOf jv).toNat)
          case atStart => exact ⟨0, rfl, by omega, by omega, (Below.refl _ _).alloc (Nat.le_refl _) _, by simp, by intro t ht; rcases t with _ | _ | t <;> first | (simp [Args.cp]; done) | omega⟩
          case round =>
            obtain ⟨j, rfl, hj1, hj2, hBi, hsi, HD⟩ := hrel
            have hv2 := (hBi.cell (p := ⟨b, off + k, none⟩) (by simp only; omega)).trans hv'
            by_cases hj : j < r.length ∧ j < 2
            · obtain ⟨g1, g2⟩ := hj
              obtain ⟨bx, ox, rfl, hbx, hvx, hix⟩ := HX.out j g1
              have hvx2 := (hBi.cell (p := ⟨bx, ox + j, none⟩) (by simp only; omega)).trans ((hB.cell (p := ⟨bx, ox + j, none⟩) hbx).trans hvx)
              clear hix hvx
              obtain ⟨hfj, hcj⟩ := HD.out j g2
              obtain ⟨vj, hvj⟩ : ∃ vj, r.getD j 0 = vj := ⟨_, rfl⟩
              rw [hvj] at hvx2
              have HVJ := Lib.hid hvj
              clear hvj
              go_wp2
              go_roundw
              case rel => exact ⟨j + 1, by go_num, by omega, by omega, hBi.setCell (Nat.le_refl _) _, by simp; omega, fun t ht => by
                obtain ⟨f1, c1⟩ := HD.out t ht
                by_cases e : t = j
                · subst e; exact ⟨by simp [go_sem, f1], by rw [World.cell?_setCell_same _ _ _ hcj, Args.cp_step, if_pos rfl, HVJ.out]⟩
                · exact ⟨by simp [go_sem, f1], by rw [World.cell?_setCell_other _ _ _ _ (by simp <;> omega), c1, Args.cp_step, if_neg e]⟩⟩
              case measure => simp [intOf]; omega
            · have d0 := (HD.out 0 (by omega)).2
              have d1 := (HD.out 1 (by omega)).2
              rw [Args.cp_full _ _ _ (by omega)] at d0 d1
              have D := Lib.hid (And.intro d0 d1)
              clear d0 d1
              go_wp2
              all_goals go_meet
              all_goals exact ⟨hBi, hsi, D.out.1, D.out.2⟩
        case rest =>
          obtain ⟨hBi, hsi, d0, d1⟩ := hcut
          have b0 := Args.getD_i64 hI.out 0
          have b1 := Args.getD_i64 hI.out 1
          generalize r.getD 0 0 = op at *
          generalize r.getD 1 0 = y at *
          have HSV := Lib.hid (HS.out.below hBi)
          have HSX := Lib.hid (HS.out.belowX hBi hsi)
          clear hv' hB hBi HS hsi
          obtain ⟨B, L, hB0, hPSX, hI0, hQ⟩ := HSX.out
          have hPS := hPSX.weaken (G := fun k => (Value.slice qa qn qc).ownBlock = some k) (fun k hk => .inl hk)
          have hql : ids.length = qn := by
            obtain ⟨_, _, e, _⟩ := hQ.slice
            simp only [Value.slice.injEq, List.length_map] at e
            exact e.2.1.symm
          have HQN := Lib.hid hql
          have hBn : B.length = qn := by rw [← hql, ← hB0]; simp [bids]
          have hcap := hI0.cap
          have hq8 : (qn : Int) ≤ many := by omega
          have hI := hI0
          have hbd := hI0
          clear hql
          by_cases hop : op < 2
          · clear hPSX HSX
            have hrm : (y.tmod 2 == 0) = true ∨ (y.tmod 2 == 0) = false := by cases (y.tmod 2 == 0) <;> simp
            rcases hrm with hrm | hrm
            all_goals
              go_wp2_with fail
              have htok : ∃ t0 : ByteArray, tokL t0.data.toList = true := ⟨_, tok_a⟩
              refine (take_st hPS hI _ (by first | exact tok_a | exact tok_b) ⟨hm1, hm2⟩ ⟨hl0, by omega⟩).mono ?_
              rintro e W2 (⟨hfull, rfl, hp⟩ | ⟨t0, L', rfl, hni, hI', hp⟩ | ⟨id, t0, L', rfl, hid, hni, hI', hp⟩)
              · have t1 : ((qn : Int) != many) = false := by rw [← hfull, hBn]; simp
                have HS2 := Lib.hid (show St w W2 pb pm many last (.slice qa qn qc) ids from ⟨B, L, hB0, hp.rebase, hI, hQ.of_block hp.same⟩)
                clear hp hfull hQ hPS
                go_wp2_with fail
                go_roundw
                case measure => simp [intOf]; omega
                case rel => exact ⟨k + 1, last, qa, qn, qc, ids, (by go_num), rfl, rfl, by omega, by omega, by omega, by omega, HS2⟩
              · have hids : ∀ j (hj : j < ids.length), (ids[j] == (last + 1)) = false := fun j hj => beq_eq_false_iff_ne.2 (fun e => hni (by rw [hB0]; rw [← e]; exact List.getElem_mem hj))
                have hQ2 : Que W2 w.heap.size 3 (.slice qa qn qc) (ids.map (Value.int .i64)) := hQ.of_block hp.same
                have HNI := Lib.hid hids
                have HQ2 := Lib.hid hQ2
                have HP2 := Lib.hid hp
                have HI2 := Lib.hid hI'
                have HB0 := Lib.hid hB0
                have HBD := Lib.hid hbd
                clear hids hQ2 hp hI' hB0 hni hQ hI hPS hbd
                go_wp2_with fail
                go_loop [25] (fun jv => ∃ j : Nat, jv = .int .i64 j ∧ j ≤ qn) (fun jv => qn - (intOf jv).toNat)
                case atStart => exact ⟨0, rfl, by omega⟩
                case round =>
                  obtain ⟨j, rfl, hj⟩ := hrel
                  by_cases hjl : j < qn
                  · have hjj : j < ids.length := by rw [HQN.out]; exact hjl
                    obtain ⟨qg, qo, qcc, eq, _, _, hqc⟩ := HQ2.out.cell (i := j) (by simpa using hjj)
                    obtain ⟨rfl, _, _⟩ := Value.slice.inj eq
                    have hne := HNI.out j hjj
                    simp only [List.getElem_map] at hqc
                    generalize ids[j] = z at hqc hne
                    have q0 : (0 : Int) ≤ (j : Int) := by omega
                    have q1 : (j : Int) < (qn : Int) := by omega
                    clear eq
                    go_wp2_with fail
                    go_round
                    case measure => simp [intOf]; omega
                    case rel => exact ⟨j + 1, (by go_num), by omega⟩
                  · obtain rfl : qn = j := by omega
                    have hN : ¬ ((qn : Int) < (qn : Int)) := by omega
                    have t1 : ((last + 1) != last + 1) = false := by simp
                    have HMEM : Hid (∀ (v' : Value) (W3 : World), Que W3 w.heap.size 3 v' (ids.map (Value.int .i64) ++ [Value.int .i64 (last + 1)]) → (W2.alloc (.cells #[Value.int .i64 (last + 1)] 3)).grownBy W3 (Value.slice qa qn qc).ownBlock → (∀ k, v'.ownBlock = some k → (Value.slice qa qn qc).ownBlock = some k ∨ (W2.alloc (.cells #[Value.int .i64 (last + 1)] 3)).heap.size ≤ k) →
                        ∃ a' c', v' = .slice a' (qn + 1) c' ∧ St w W3 pb pm many (last + 1) (.slice a' (qn + 1) c') (ids ++ [(last + 1)])) := fun v' W3 hq hg hl => by
                      obtain ⟨a', c', rfl, _⟩ := hq.slice
                      rw [List.length_append, List.length_map, HQN.out] at hq hl ⊢
                      refine ⟨a', c', rfl, B ++ [((last + 1), t0)], L', by rw [bids_append, HB0.out], HP2.out.step (((Mod.refl _ W2).alloc _).grown hg (fun k e _ => e)) (fun k hk => ⟨(hq.lt k hk).2, ?_⟩), HI2.out, by rw [List.map_append]; exact hq⟩
                      rcases hl k hk with h | h
                      · exact .inl h
                      · exact .inr (by simp at h; omega)
                    have hwb : w.heap.size ≤ W2.heap.size := HP2.out.base.size
                    have HL := Lib.hid (show (ids.map (Value.int .i64)).length < 1000000000 by rw [List.length_map, HQN.out]; omega)
                    go_wp2_with (first
                      | (at_builtin; refine wpList_que elemI rfl _ _ rfl w.heap.size _ _ rfl (HQ2.out.alloc _) W2.heap.size 1 (.int .i64 ((last + 1))) rfl (by simp) rfl HL.out (by simp; omega) ?_; intro v' W3 hq' hg' hl'; obtain ⟨a', c', rfl, hst⟩ := HMEM.out v' W3 hq' hg' hl'; have HST := Lib.hid hst; clear hq' hg' hl' hst)
                      | (go_at_call 12; (with_reducible refine (busy_st HST.out).mono ?_); rintro e W4 ⟨rfl, rfl⟩)
                      | (go_at_call 13; (with_reducible refine (idle_a HST.out hm2).mono ?_); rintro e W5 ⟨na, rfl, hna, hst⟩; have HST5 := Lib.hid hst; clear hst)
                      | (go_at_call 13; (with_reducible refine (idle_b HST5.out hm2).mono ?_); rintro e W6 ⟨nb, rfl, hnb, hqq, hnb2, hst⟩; have HST6 := Lib.hid hst; clear hst))
                    refine ⟨⟨k + 1, last + 1, a', qn + 1, c', _, (by go_num), rfl, rfl, by omega, by omega, by omega, by omega, HST6⟩, by simp [intOf]; omega⟩
              · have hids : ∀ j (hj : j < ids.length), (ids[j] == id) = false := fun j hj => beq_eq_false_iff_ne.2 (fun e => hni (by rw [hB0]; rw [← e]; exact List.getElem_mem hj))
                have hQ2 : Que W2 w.heap.size 3 (.slice qa qn qc) (ids.map (Value.int .i64)) := hQ.of_block hp.same
                have HNI := Lib.hid hids
                have HQ2 := Lib.hid hQ2
                have HP2 := Lib.hid hp
                have HI2 := Lib.hid hI'
                have HB0 := Lib.hid hB0
                have HBD := Lib.hid hbd
                clear hids hQ2 hp hI' hB0 hni hQ hI hPS hbd
                go_wp2_with fail
                go_loop [25] (fun jv => ∃ j : Nat, jv = .int .i64 j ∧ j ≤ qn) (fun jv => qn - (intOf jv).toNat)
                case atStart => exact ⟨0, rfl, by omega⟩
                case round =>
                  obtain ⟨j, rfl, hj⟩ := hrel
                  by_cases hjl : j < qn
                  · have hjj : j < ids.length := by rw [HQN.out]; exact hjl
                    obtain ⟨qg, qo, qcc, eq, _, _, hqc⟩ := HQ2.out.cell (i := j) (by simpa using hjj)
                    obtain ⟨rfl, _, _⟩ := Value.slice.inj eq
                    have hne := HNI.out j hjj
                    simp only [List.getElem_map] at hqc
                    generalize ids[j] = z at hqc hne
                    have q0 : (0 : Int) ≤ (j : Int) := by omega
                    have q1 : (j : Int) < (qn : Int) := by omega
                    clear eq
                    go_wp2_with fail
                    go_round
                    case measure => simp [intOf]; omega
                    case rel => exact ⟨j + 1, (by go_num), by omega⟩
                  · obtain rfl : qn = j := by omega
                    have hN : ¬ ((qn : Int) < (qn : Int)) := by omega
                    have t1 : ¬ last < id := by omega
                    have t1b : decide (last < id) = false := decide_eq_false t1
                    have HMEM : Hid (∀ (v' : Value) (W3 : World), Que W3 w.heap.size 3 v' (ids.map (Value.int .i64) ++ [Value.int .i64 id]) → (W2.alloc (.cells #[Value.int .i64 id] 3)).grownBy W3 (Value.slice qa qn qc).ownBlock → (∀ k, v'.ownBlock = some k → (Value.slice qa qn qc).ownBlock = some k ∨ (W2.alloc (.cells #[Value.int .i64 id] 3)).heap.size ≤ k) →
                        ∃ a' c', v' = .slice a' (qn + 1) c' ∧ St w W3 pb pm many last (.slice a' (qn + 1) c') (ids ++ [id])) := fun v' W3 hq hg hl => by
                      obtain ⟨a', c', rfl, _⟩ := hq.slice
                      rw [List.length_append, List.length_map, HQN.out] at hq hl ⊢
                      refine ⟨a', c', rfl, B ++ [(id, t0)], L', by rw [bids_append, HB0.out], HP2.out.step (((Mod.refl _ W2).alloc _).grown hg (fun k e _ => e)) (fun k hk => ⟨(hq.lt k hk).2, ?_⟩), HI2.out, by rw [List.map_append]; exact hq⟩
                      rcases hl k hk with h | h
                      · exact .inl h
                      · exact .inr (by simp at h; omega)
                    have hwb : w.heap.size ≤ W2.heap.size := HP2.out.base.size
                    have HL := Lib.hid (show (ids.map (Value.int .i64)).length < 1000000000 by rw [List.length_map, HQN.out]; omega)
                    go_wp2_with (first
                      | (at_builtin; refine wpList_que elemI rfl _ _ rfl w.heap.size _ _ rfl (HQ2.out.alloc _) W2.heap.size 1 (.int .i64 id) rfl (by simp) rfl HL.out (by simp; omega) ?_; intro v' W3 hq' hg' hl'; obtain ⟨a', c', rfl, hst⟩ := HMEM.out v' W3 hq' hg' hl'; have HST := Lib.hid hst; clear hq' hg' hl' hst)
                      | (go_at_call 12; (with_reducible refine (busy_st HST.out).mono ?_); rintro e W4 ⟨rfl, rfl⟩)
                      | (go_at_call 13; (with_reducible refine (idle_a HST.out hm2).mono ?_); rintro e W5 ⟨na, rfl, hna, hst⟩; have HST5 := Lib.hid hst; clear hst)
                      | (go_at_call 13; (with_reducible refine (idle_b HST5.out hm2).mono ?_); rintro e W6 ⟨nb, rfl, hnb, hqq, hnb2, hst⟩; have HST6 := Lib.hid hst; clear hst))
                    refine ⟨⟨k + 1, last, a', qn + 1, c', _, (by go_num), rfl, rfl, by omega, by omega, by omega, by omega, HST6⟩, by simp [intOf]; omega⟩
          · have hop2 : ¬ op < 2 := hop
            by_cases hq0 : qn = 0
            · subst hq0
              have HST := HSV
              clear hQ hPS hPSX HSX hI hI0 hB0 hbd
              go_wp2_with (first
                | (go_at_call 12; (with_reducible refine (busy_st HST.out).mono ?_); rintro e W4 ⟨rfl, rfl⟩)
                | (go_at_call 13; (with_reducible refine (idle_a HST.out hm2).mono ?_); rintro e W5 ⟨na, rfl, hna, hst⟩; have HST5 := Lib.hid hst; clear hst)
                | (go_at_call 13; (with_reducible refine (idle_b HST5.out hm2).mono ?_); rintro e W6 ⟨nb, rfl, hnb, hqq, hnb2, hst⟩; have HST6 := Lib.hid hst; clear hst))
              refine ⟨⟨k + 1, last, qa, 0, qc, ids, (by go_num), rfl, rfl, by omega, by omega, by omega, by omega, HST6⟩, by simp [intOf]; omega⟩
            · obtain ⟨N, rfl⟩ : ∃ N, qn = N + 1 := ⟨qn - 1, by omega⟩
              cases B with
              | nil => simp at hBn
              | cons p Br =>
                obtain ⟨id, t0⟩ := p
                have hids : ids = id :: bids Br := by rw [← hB0]; rfl
                subst hids
                obtain ⟨gd, hgd⟩ : ∃ gd, (y.tmod 3 != 0) = gd := ⟨_, rfl⟩
                obtain ⟨hni, hid, hI2⟩ := hI.back (now := 0) gd
                obtain ⟨qg, qo, rfl, htl⟩ := hQ.tail
                obtain ⟨_, _, e1, hqc1, _⟩ := hQ.slice
                obtain ⟨C, rfl⟩ : ∃ C, qc = C + 1 := ⟨qc - 1, by
                  simp only [Value.slice.injEq] at e1
                  obtain ⟨_, _, rfl⟩ := e1
                  simp at hqc1; omega⟩
                have hNC : N ≤ C := by
                  simp only [Value.slice.injEq] at e1
                  obtain ⟨_, _, rfl⟩ := e1
                  have := HQN.out
                  simp at hqc1 this; omega
                clear e1 hqc1
                have hPSd : PS w wc.drew (fun k => (Value.slice (some ⟨qg, qo, none⟩) (N + 1) (C + 1)).ownBlock = some k ∨ k = wo.heap.size, wc) pb pm many last 0 ((id, t0) :: Br) L := hPSX.below ⟨rfl, rfl, rfl, Nat.le_refl _, fun _ _ => rfl⟩
                have hl8 := inv_len hI hm2
                have HBK := Lib.hid (back_ps hPSd id (by omega) t0 (findB_head _ _ _) gd (by omega))
                obtain ⟨qg1, qo1, qcc1, eq1, _, _, hqc⟩ := hQ.cell (i := 0) (by simp)
                simp only [Value.slice.injEq, Option.some.injEq, Addr.mk.injEq, and_true] at eq1
                obtain ⟨⟨rfl, rfl⟩, -, -⟩ := eq1
                have c0q : wc.drew.cell? ⟨qg, qo, none⟩ = some (.int .i64 id) := hqc
                have d1' : wc.drew.cell? ⟨wo.heap.size, 1, none⟩ = some (.int .i64 y) := d1
                have HQ := Lib.hid hQ
                have HTL := Lib.hid htl
                have HI2 := Lib.hid hI2
                have HNI := Lib.hid hni
                have HL8 := Lib.hid hl8
                have HF2 : Hid (∀ W2, PS w W2 (fun k => (Value.slice (some ⟨qg, qo, none⟩) (N + 1) (C + 1)).ownBlock = some k ∨ k = wo.heap.size, wc) pb pm many last 0 (delB ((id, t0) :: Br) id) (if gd then L ++ [⟨id, 0, t0⟩] else L) → (W2.cell? ⟨qg, qo, none⟩ = some (.int .i64 id) ∧ W2.cell? ⟨wo.heap.size, 1, none⟩ = some (.int .i64 y)) ∧
                    (∀ q, q = (if C + 1 = 1 then qo else qo + 1) → St w W2 pb pm many last (.slice (some ⟨qg, q, none⟩) N C) (bids Br)) ∧ PS w W2 (fun k => (Value.slice (some ⟨qg, qo, none⟩) (N + 1) (C + 1)).ownBlock = some k, W2) pb pm many last 0 Br (if gd then L ++ [⟨id, 0, t0⟩] else L)) := fun W2 hp => by
                  rw [delB_head HNI.out] at hp
                  have hq2 : Que W2 w.heap.size 3 _ _ := HQ.out.of_block (fun k hk => hp.same k (.inl hk))
                  have hpw := (hp.weaken (G := fun k => (Value.slice (some ⟨qg, qo, none⟩) (N + 1) (C + 1)).ownBlock = some k) (fun k hk => .inl hk)).rebase
                  refine ⟨⟨?_, (World.cell?_of_block (a := ⟨wo.heap.size, 1, none⟩) (hp.same _ (.inr rfl))).trans d1⟩, fun q hq => ⟨Br, _, rfl, hpw, HI2.out, ?_⟩, hpw⟩
                  · have := (World.cell?_of_block (a := ⟨qg, qo, none⟩) (hp.same qg (.inl rfl))).trans hqc
                    exact this
                  · obtain ⟨g', o', e', ht'⟩ := hq2.tail
                    simp only [Option.some.injEq, Addr.mk.injEq, and_true] at e'
                    obtain ⟨rfl, rfl⟩ := e'
                    exact ht' q hq
                have i0 : (0 : Int) ≤ (N : Int) + 1 := by omega
                have i1 : (0 : Int) < (N : Int) + 1 := by omega
                clear hQ hPS hPSX HSX hI hI0 hB0 hbd htl hI2 hni hl8 hPSd hqc d1
                go_wp2_with fail
                go_region_held3 (fun W' => W'.cell? ⟨qg, qo, none⟩ = some (.int .i64 id) ∧ W'.cell? ⟨wo.heap.size, 1, none⟩ = some (.int .i64 y)) (first | exact ⟨c0q, d1'⟩ | exact c2q) ((go_at_call 11; (with_reducible refine HBK.out.mono ?_); rintro e W2 ⟨rfl, hp⟩; obtain ⟨c2q, hst, hps⟩ := HF2.out W2 hp; have HST0 := Lib.hid hst; have HPS2 := Lib.hid hps; clear hp hst hps))
                have i2 : (1 : Int) ≤ (N : Int) + 1 := by omega
                have i3 : (N : Int) + 1 ≤ (C : Int) + 1 := by omega
                have hfb := findB_out HNI.out
                have HFB := Lib.hid hfb
                clear hfb HBK HF2 HQ HTL hgd
                by_cases hC : C = 0
                · subst hC
                  obtain rfl : N = 0 := by omega
                  have HST := Lib.hid (HST0.out qo rfl)
                  clear HST0
                  go_wp2_with (first
                    | (go_at_call 11; (with_reducible refine (back_none_ps HPS2.out id (by omega) true HFB.out).mono ?_); rintro e W3 ⟨rfl, rfl⟩)
                    | (go_at_call 12; (with_reducible refine (busy_st HST.out).mono ?_); rintro e W4 ⟨rfl, rfl⟩)
                    | (go_at_call 13; (with_reducible refine (idle_a HST.out hm2).mono ?_); rintro e W5 ⟨na, rfl, hna, hst⟩; have HST5 := Lib.hid hst; clear hst)
                    | (go_at_call 13; (with_reducible refine (idle_b HST5.out hm2).mono ?_); rintro e W6 ⟨nb, rfl, hnb, hqq, hnb2, hst⟩; have HST6 := Lib.hid hst; clear hst))
                  refine ⟨⟨k + 1, last, _, 0, 0, _, (by go_num), rfl, rfl, by omega, by omega, by omega, by omega, HST6⟩, by simp [intOf]; omega⟩
                · have HST := Lib.hid (HST0.out (qo + 1) (by rw [if_neg (by omega)]))
                  clear HST0
                  go_wp2_with (first
                    | (go_at_call 11; (with_reducible refine (back_none_ps HPS2.out id (by omega) true HFB.out).mono ?_); rintro e W3 ⟨rfl, rfl⟩)
                    | (go_at_call 12; (with_reducible refine (busy_st HST.out).mono ?_); rintro e W4 ⟨rfl, rfl⟩)
                    | (go_at_call 13; (with_reducible refine (idle_a HST.out hm2).mono ?_); rintro e W5 ⟨na, rfl, hna, hst⟩; have HST5 := Lib.hid hst; clear hst)
                    | (go_at_call 13; (with_reducible refine (idle_b HST5.out hm2).mono ?_); rintro e W6 ⟨nb, rfl, hnb, hqq, hnb2, hst⟩; have HST6 := Lib.hid hst; clear hst))
                  refine ⟨⟨k + 1, last, _, N, C, _, (by go_num), rfl, rfl, by omega, by omega, by omega, by omega, HST6⟩, by simp [intOf]; omega⟩
      · have HB := Lib.hid hB
        clear hB
        rcases Nat.lt_or_ge k rows.length with h | h
        · have h80 : ¬ (k : Int) < 80 := by omega
          have hlt : (k : Int) < (rows.length : Int) := by omega
          go_wp2_with fail
          go_ret
          exact ⟨rfl, HB.out⟩
        · have hge : ¬ (k : Int) < (rows.length : Int) := by omega
          go_wp2_with fail
          go_ret
          exact ⟨rfl, HB.out⟩
  · have hm2 : many < 1 ∨ 8 < many := by omega
    clear hm
    go_wp2_with (go_at_call 8; (with_reducible refine (new_bad many _ hm2).mono ?_); rintro e w5 ⟨rfl, rfl⟩)
    go_ret
    exact ⟨rfl, HB4.out⟩
end Go.Proofs.YtcdhjbeeehjpiaaDoor.WalkPoolOnce
