/-
  The walk of the law StreamsSeen: for every steps it returns true and writes nothing that was there.
  Conditions: none.
-/
import Derived.Test.YtpbaanoheeghlaaArgs
import Derived.Test.YtpbaanoheeghlaaStreamsRef
import Derived.Deep.RegionHeld3
import Derived.Lib.Hide
namespace Go.Proofs.Ytpbaanoheeghlaa.WalkStreamsSeen
open Go.RowKit StreamC StreamsC ModL SRef
set_option linter.unusedVariables false

/-- All states are states. -/
def AllOk (l : List (Int × Int)) : Prop := ∀ p ∈ l, 1 ≤ p.2 ∧ p.2 ≤ 4
theorem allOk_put {l : List (Int × Int)} (h : AllOk l) (id x : Int) (hx : 1 ≤ x ∧ x ≤ 4) : AllOk (putS l id x) := by
  induction l with
  | nil => intro p hp; simp [putS] at hp; subst hp; exact hx
  | cons q l ih =>
    intro p hp
    simp only [putS] at hp
    split at hp
    · rcases List.mem_cons.1 hp with rfl | hp
      · exact hx
      · exact h p (by simp [hp])
    · rcases List.mem_cons.1 hp with rfl | hp
      · exact h _ (by simp)
      · exact ih (fun p hp => h p (by simp [hp])) p hp
theorem state_ne {l : List (Int × Int)} (h : AllOk l) (last id : Int) (hok : okId last id) : stateF l last id ≠ 0 := by
  unfold stateF
  rw [if_pos hok]
  cases hf : lookS l id with
  | none => simp
  | some x =>
    simp only [lookS, Option.map_eq_some_iff] at hf
    obtain ⟨p, hp, rfl⟩ := hf
    have := h p (List.mem_of_find?_eq_some hp)
    simp; omega
theorem state_eq (l : List (Int × Int)) (last id : Int) (hok : ¬ okId last id) : stateF l last id = 0 := by
  unfold stateF
  rw [if_neg hok]

/-- What the loop carries: both sides hold the same. -/
structure Both (w wr : World) (l : List (Int × Int)) (last : Int) (k : Nat) : Prop where
  s : IsStreams wr (w.heap.size + 1) w.heap.size l last
  r : IsRef wr (fun k => k = w.heap.size + 1 ∨ k = w.heap.size) w.heap.size (w.heap.size + 2) l last
  b : Below w.heap.size w wr
  ok : AllOk l
  len : l.length ≤ k
  la : 0 ≤ last ∧ last ≤ 9223372036854775807

theorem sopen_full {w : World} {N : Nat → Prop} {B sb : Nat} {l : List (Int × Int)} {last : Int} (h : IsRef w N B sb l last) (hl : l.length < 4294967296) (hBw : B ≤ w.heap.size) (hN : ∀ k, N k → k < w.heap.size) (hla : 0 ≤ last) (id : Int) (hid : -9223372036854775808 ≤ id ∧ id ≤ 9223372036854775807) (hb : ¬ openBad last id) (hn : 16 ≤ liveN l) :
    Calls Try.prog 23 #[.pointer (some ⟨sb, 0, none⟩), .int .i64 id] w fun e w' => e = .returned (.tuple #[.int .i64 7, .bool false]) ∧ IsRef w' N B sb l id ∧ Mod (fun k => ¬ N k ∧ B ≤ k) w w' :=
  (SRef.open_ok h hl hBw hN hla id hid hb).mono fun e w' hh => by
    rcases hh.2 with h2 | h2
    · exact ⟨h2.2.1, h2.2.2, hh.1⟩
    · omega
theorem sopen_room {w : World} {N : Nat → Prop} {B sb : Nat} {l : List (Int × Int)} {last : Int} (h : IsRef w N B sb l last) (hl : l.length < 4294967296) (hBw : B ≤ w.heap.size) (hN : ∀ k, N k → k < w.heap.size) (hla : 0 ≤ last) (id : Int) (hid : -9223372036854775808 ≤ id ∧ id ≤ 9223372036854775807) (hb : ¬ openBad last id) (hn : ¬ 16 ≤ liveN l) :
    Calls Try.prog 23 #[.pointer (some ⟨sb, 0, none⟩), .int .i64 id] w fun e w' => e = .returned (.tuple #[.int .i64 0, .bool false]) ∧ IsRef w' N B sb (putS l id 1) id ∧ Mod (fun k => ¬ N k ∧ B ≤ k) w w' :=
  (SRef.open_ok h hl hBw hN hla id hid hb).mono fun e w' hh => by
    rcases hh.2 with h2 | h2
    · omega
    · exact ⟨h2.2.1, h2.2.2, hh.1⟩

set_option maxRecDepth 100000 in
set_option maxHeartbeats 40000000 in
theorem walk (v1 : Value) (rows : List (List Int)) (w : World) (w1 : Args.IntRowsAt w v1 rows) :
    Calls Try.prog 7 #[v1] w fun e w' => e = .returned (.bool true) ∧ Below w.heap.size w w' := by
  obtain ⟨a1, cap, rfl, hcap, hcap2, hel⟩ := w1.open
  have HEL := Lib.hid hel
  clear hel w1
  go_enter Try.func7, Try.ntmps7
  go_wp2_with fail
  refine (new_any w).mono ?_
  rintro e w1 ⟨rfl, hS, hB, hsz⟩
  have h0 : Both w (w1.alloc (.cells #[.slice none 0 0, .slice none 0 0, .int .i64 0] 46)) [] 0 0 :=
    ⟨hS.below (Below.refl w1.heap.size w1 |>.alloc (Nat.le_refl _) _) (by omega) (by omega), by
      have := IsRef.fresh w1 (fun k => k = w.heap.size + 1 ∨ k = w.heap.size) w.heap.size (by intro k hk; omega) (by omega)
      rw [hsz] at this
      exact this, hB.alloc (by omega) _, by intro p hp; simp at hp, Nat.le_refl _, by omega⟩
  have H0 := Lib.hid h0
  clear h0 hS hB
  go_wp2
  go_loopw [5] (fun i wr => ∃ (k : Nat) (l : List (Int × Int)) (last : Int), i = .int .i64 k ∧ k ≤ rows.length ∧ k ≤ 80 ∧ Hid (Both w wr l last k)) (fun i _ => 80 - (intOf i).toNat)
  case atStart => exact ⟨0, [], 0, rfl, by omega, by omega, H0.out⟩
  case round =>
    obtain ⟨k, l, last, rfl, hk1, hk2, HB⟩ := hrel
    by_cases hin : k < rows.length ∧ k < 80
    · obtain ⟨g1, g2⟩ := hin
      obtain ⟨b, off, x, rfl, hb, hv, hx⟩ := HEL.out k g1
      obtain ⟨ax, capx, rfl, hcx, hcx2, helx⟩ := hx.open
      have HX := Lib.hid helx
      have hI := Lib.hid hx.2
      clear helx hx
      have hv' := (HB.out.b.cell (p := ⟨b, off + k, none⟩) hb).trans hv
      have hszr := HB.out.b.size
      generalize rows.getD k [] = r at *
      clear hv
      go_wp2
      obtain ⟨wo, rfl⟩ : ∃ wo : World, wo = wr := ⟨_, rfl⟩
      go_loopw [7] (fun jv wi => ∃ (j : Nat), jv = .int .i64 j ∧ j ≤ r.length ∧ j ≤ 3 ∧ Below wo.heap.size wo wi ∧ wo.heap.size < wi.heap.size ∧ Hid (∀ t, t < 3 → wi.frozen? ⟨wo.heap.size, t, none⟩ = false ∧ wi.cell? ⟨wo.heap.size, t, none⟩ = some (.int .i64 (Args.cp r j t)))) (fun jv _ => 3 - (intOf jv).toNat)
      case atStart => exact ⟨0, rfl, by omega, by omega, (Below.refl _ _).alloc (Nat.le_refl _) _, by simp, by intro t ht; rcases t with _ | _ | _ | t <;> first | (simp [Args.cp]; done) | omega⟩
      case round =>
        obtain ⟨j, rfl, hj1, hj2, hBi, hsi, HD⟩ := hrel
        have hv2 := (hBi.cell (p := ⟨b, off + k, none⟩) (by simp only; omega)).trans hv'
        by_cases hj : j < r.length ∧ j < 3
        · obtain ⟨q1, q2⟩ := hj
          obtain ⟨bx, ox, rfl, hbx, hvx, hix⟩ := HX.out j q1
          have hvx2 := (hBi.cell (p := ⟨bx, ox + j, none⟩) (by simp only; omega)).trans ((HB.out.b.cell (p := ⟨bx, ox + j, none⟩) hbx).trans hvx)
          clear hix hvx
          obtain ⟨hfj, hcj⟩ := HD.out j q2
          obtain ⟨vj, hvj⟩ : ∃ vj, r.getD j 0 = vj := ⟨_, rfl⟩
          rw [hvj] at hvx2
          have HVJ := Lib.hid hvj
          clear hvj
          go_wp2
          go_roundw
          case rel => exact ⟨j + 1, by go_num, by omega, by omega, hBi.setCell (Nat.le_refl _) _, by simp; omega, fun t ht => by
            obtain ⟨f1, c1⟩ := HD.out t ht
            by_cases e : t = j
            · subst e; exact ⟨by simp [go_sem, f1], by rw [World.cell?_setCell_same _ _ _ hcj, Args.cp_step, if_pos rfl, HVJ.out]⟩
            · exact ⟨by simp [go_sem, f1], by rw [World.cell?_setCell_other _ _ _ _ (by simp <;> omega), c1, Args.cp_step, if_neg e]⟩⟩
          case measure => simp [intOf]; omega
        · obtain ⟨f0, d0⟩ := HD.out 0 (by omega)
          obtain ⟨f1, d1⟩ := HD.out 1 (by omega)
          obtain ⟨f2, d2⟩ := HD.out 2 (by omega)
          rw [Args.cp_full _ _ _ (by omega)] at d0 d1 d2
          have b1 := Args.getD_i64 hI.out 1
          have b2 := Args.getD_i64 hI.out 2
          generalize r.getD 0 0 = op at *
          generalize r.getD 1 0 = x at *
          generalize r.getD 2 0 = y at *
          clear f0 f1 f2
          obtain ⟨x1, x2⟩ := b1
          obtain ⟨y1, y2⟩ := b2
          -- what the round begins with, at the world behind the copy
          have hV1 : wo.heap.size ≠ w.heap.size + 1 ∧ wo.heap.size ≠ w.heap.size := by
            have := HB.out.s.lt
            omega
          have HS : Hid (IsStreams wr (w.heap.size + 1) w.heap.size l last) := HB.out.s.below hBi HB.out.s.lt.1 HB.out.s.lt.2
          have HR : Hid (IsRef wr (fun k => k = w.heap.size + 1 ∨ k = w.heap.size ∨ k = wo.heap.size) w.heap.size (w.heap.size + 2) l last) := by
            have h1 := HB.out.r.more (N' := fun k => k = w.heap.size + 1 ∨ k = w.heap.size ∨ k = wo.heap.size) (by intro k hk h; omega)
            exact h1.mod (Mod.ofBelow (S := fun k => wo.heap.size ≤ k) hBi (fun k hk h => h)) (by intro k hk h; omega)
          have HBW : Hid (Below w.heap.size w wr) := HB.out.b.trans (hBi.mono hszr)
          have hNlt : Hid (∀ k, (k = w.heap.size + 1 ∨ k = w.heap.size ∨ k = wo.heap.size) → k < wr.heap.size) := by
            intro k hk
            have := HS.out.lt
            omega
          have hlen : l.length ≤ 80 := by have := HB.out.len; omega
          have hla := HB.out.la
          have HOK := Lib.hid HB.out.ok
          have HLEN := Lib.hid HB.out.len
          obtain ⟨hla1, hla2⟩ := hla
          clear hv' hBi
          have hlt80 : l.length < 4294967296 := by omega
          have hcases : (j < r.length ∧ 3 ≤ j) ∨ r.length ≤ j := by omega
          clear hj
          by_cases hop : op < 3
          · by_cases hbad : openBad last x
            · rcases hcases with ⟨hja, hjb⟩ | hja
              all_goals
                go_wp2_with (first
                  | (go_at_call 20; refine (StreamsC.open_bad HS.out hla1 x ⟨x1, x2⟩ hbad).mono ?_; rintro e w' ⟨rfl, rfl⟩)
                  | (go_at_call 23; refine (SRef.open_bad HR.out hla1 x ⟨x1, x2⟩ hbad).mono ?_; rintro e w' ⟨rfl, rfl⟩))
                have d1' : wr.drew.cell? ⟨wo.heap.size, 1, none⟩ = some (.int .i64 x) := d1
                have hm2 : wr.drew.cell? ⟨w.heap.size + 2, 2, none⟩ = some (.int .i64 last) := HR.out.last
                have hVs := HS.out.lt
                have HSd := Lib.hid HS.out.drew
                have HRd := Lib.hid HR.out.drew
                have HBd := Lib.hid (HBW.out.drew)
                go_region_held3 (fun w' => w'.cell? ⟨wo.heap.size, 1, none⟩ = some (.int .i64 x) ∧ w'.cell? ⟨w.heap.size + 2, 2, none⟩ = some (.int .i64 last)) (first | exact ⟨d1', hm2⟩ | exact ⟨k1, k2⟩)
                  (first
                    | (go_at_call 21; refine (state_any HSd.out x ⟨x1, x2⟩).mono ?_; rintro e w' ⟨rfl, rfl⟩)
                    | (go_at_call 25; refine (SRef.state_any HRd.out x ⟨x1, x2⟩).mono ?_; rintro e w' ⟨rfl, rfl⟩)
                    | (go_at_call 18; refine (StreamsC.many_any HSd.out hlt80).mono ?_; rintro e wm ⟨rfl, hBm⟩; have k1 := (hBm.cell (p := ⟨wo.heap.size, 1, none⟩) (block_lt_of_cell d1')).trans d1'; have k2 := (hBm.cell (p := ⟨w.heap.size + 2, 2, none⟩) (block_lt_of_cell hm2)).trans hm2; have HS2 := Lib.hid (HSd.out.below hBm hVs.1 hVs.2); have HR2 := Lib.hid (HRd.out.mod (Mod.refl (fun _ => False) _ |>.below hBm (fun k hk h => by omega)) (fun k hk h => h.elim)); have HB2 := Lib.hid (HBd.out.trans (hBm.mono HBd.out.size)); clear hBm)
                    | (go_at_call 26; refine (SRef.many_any HR2.out).mono ?_; rintro e w' ⟨rfl, rfl⟩)
                    | (go_at_call 19; refine (last_any HS2.out).mono ?_; rintro e w' ⟨rfl, rfl⟩))
                go_wp2
                go_roundw
                case rel => exact ⟨k + 1, l, last, by go_num, by omega, by omega, ⟨HS2.out, HR2.out.more (by intro k hk h; omega), HB2.out, HOK.out, by have := HLEN.out; omega, ⟨hla1, hla2⟩⟩⟩
                case measure => simp [intOf]; omega
            · have hxl : last < x := by
                have h : x % 2 = 1 ∧ last < x := by simpa [openBad] using hbad
                exact h.2
              by_cases hn : 16 ≤ liveN l
              · rcases hcases with ⟨hja, hjb⟩ | hja
                all_goals
                  go_wp2_with (first
                    | (go_at_call 20; refine (StreamsC.open_full HS.out hlt80 hla1 x ⟨x1, x2⟩ hbad hn).mono ?_; rintro e w2 ⟨rfl, hS2, hM2⟩; have HSa := Lib.hid hS2; have HRa := Lib.hid (HR.out.mod hM2 (fun k hk h => by omega)); have HBa := Lib.hid (HBW.out.trans (hM2.toBelow HBW.out.size (fun k hk h => by omega))); have da := (hM2.cell (p := ⟨wo.heap.size, 1, none⟩) (block_lt_of_cell d1) (by simp only; omega)).trans d1; have db := (hM2.cell (p := ⟨wo.heap.size, 2, none⟩) (block_lt_of_cell d2) (by simp only; omega)).trans d2; have HNa : Hid (∀ k, (k = w.heap.size + 1 ∨ k = w.heap.size ∨ k = wo.heap.size) → k < w2.heap.size) := fun k hk => Nat.lt_of_lt_of_le (hNlt.out k hk) hM2.size; clear hS2 hM2)
                    | (go_at_call 23; refine (sopen_full HRa.out hlt80 HBa.out.size HNa.out hla1 x ⟨x1, x2⟩ hbad hn).mono ?_; rintro e w3 ⟨rfl, hR3, hM3⟩; have HSb := Lib.hid (HSa.out.mod hM3 (fun h => h.1 (.inl rfl)) (fun h => h.1 (.inr (.inl rfl)))); have HRb := Lib.hid hR3; have HBb := Lib.hid (HBa.out.trans (hM3.toBelow HBa.out.size (fun k hk h => by omega))); have dc := (hM3.cell (p := ⟨wo.heap.size, 1, none⟩) (block_lt_of_cell da) (fun h => h.1 (.inr (.inr rfl)))).trans da; clear hR3 hM3))
                  have d1' : w3.drew.cell? ⟨wo.heap.size, 1, none⟩ = some (.int .i64 x) := dc
                  have hm2 : w3.drew.cell? ⟨w.heap.size + 2, 2, none⟩ = some (.int .i64 x) := HRb.out.last
                  have hVs := HSb.out.lt
                  have HSd := Lib.hid HSb.out.drew
                  have HRd := Lib.hid HRb.out.drew
                  have HBd := Lib.hid (HBb.out.drew)
                  go_region_held3 (fun w' => w'.cell? ⟨wo.heap.size, 1, none⟩ = some (.int .i64 x) ∧ w'.cell? ⟨w.heap.size + 2, 2, none⟩ = some (.int .i64 x)) (first | exact ⟨d1', hm2⟩ | exact ⟨k1, k2⟩)
                    (first
                      | (go_at_call 21; refine (state_any HSd.out x ⟨x1, x2⟩).mono ?_; rintro e w' ⟨rfl, rfl⟩)
                      | (go_at_call 25; refine (SRef.state_any HRd.out x ⟨x1, x2⟩).mono ?_; rintro e w' ⟨rfl, rfl⟩)
                      | (go_at_call 18; refine (StreamsC.many_any HSd.out hlt80).mono ?_; rintro e wm ⟨rfl, hBm⟩; have k1 := (hBm.cell (p := ⟨wo.heap.size, 1, none⟩) (block_lt_of_cell d1')).trans d1'; have k2 := (hBm.cell (p := ⟨w.heap.size + 2, 2, none⟩) (block_lt_of_cell hm2)).trans hm2; have HS2 := Lib.hid (HSd.out.below hBm hVs.1 hVs.2); have HR2 := Lib.hid (HRd.out.mod (Mod.refl (fun _ => False) _ |>.below hBm (fun k hk h => by omega)) (fun k hk h => h.elim)); have HB2 := Lib.hid (HBd.out.trans (hBm.mono HBd.out.size)); clear hBm)
                      | (go_at_call 26; refine (SRef.many_any HR2.out).mono ?_; rintro e w' ⟨rfl, rfl⟩)
                      | (go_at_call 19; refine (last_any HS2.out).mono ?_; rintro e w' ⟨rfl, rfl⟩))
                  go_wp2
                  go_roundw
                  case rel => exact ⟨k + 1, l, x, by go_num, by omega, by omega, ⟨HS2.out, HR2.out.more (by intro k hk h; omega), HB2.out, HOK.out, by have := HLEN.out; omega, ⟨by omega, x2⟩⟩⟩
                  case measure => simp [intOf]; omega
              · have hlt81 : (putS l x 1).length < 4294967296 := by have := putS_len l x 1; omega
                rcases hcases with ⟨hja, hjb⟩ | hja
                all_goals
                  go_wp2_with (first
                    | (go_at_call 20; refine (StreamsC.open_ok HS.out hlt80 hla1 x ⟨x1, x2⟩ hbad (by omega)).mono ?_; rintro e w2 ⟨rfl, hS2, hM2⟩; have HSa := Lib.hid hS2; have HRa := Lib.hid (HR.out.mod hM2 (fun k hk h => by omega)); have HBa := Lib.hid (HBW.out.trans (hM2.toBelow HBW.out.size (fun k hk h => by omega))); have da := (hM2.cell (p := ⟨wo.heap.size, 1, none⟩) (block_lt_of_cell d1) (by simp only; omega)).trans d1; have db := (hM2.cell (p := ⟨wo.heap.size, 2, none⟩) (block_lt_of_cell d2) (by simp only; omega)).trans d2; have HNa : Hid (∀ k, (k = w.heap.size + 1 ∨ k = w.heap.size ∨ k = wo.heap.size) → k < w2.heap.size) := fun k hk => Nat.lt_of_lt_of_le (hNlt.out k hk) hM2.size; clear hS2 hM2)
                    | (go_at_call 23; refine (sopen_room HRa.out hlt80 HBa.out.size HNa.out hla1 x ⟨x1, x2⟩ hbad hn).mono ?_; rintro e w3 ⟨rfl, hR3, hM3⟩; have HSb := Lib.hid (HSa.out.mod hM3 (fun h => h.1 (.inl rfl)) (fun h => h.1 (.inr (.inl rfl)))); have HRb := Lib.hid hR3; have HBb := Lib.hid (HBa.out.trans (hM3.toBelow HBa.out.size (fun k hk h => by omega))); have dc := (hM3.cell (p := ⟨wo.heap.size, 1, none⟩) (block_lt_of_cell da) (fun h => h.1 (.inr (.inr rfl)))).trans da; clear hR3 hM3))
                  have d1' : w3.drew.cell? ⟨wo.heap.size, 1, none⟩ = some (.int .i64 x) := dc
                  have hm2 : w3.drew.cell? ⟨w.heap.size + 2, 2, none⟩ = some (.int .i64 x) := HRb.out.last
                  have hVs := HSb.out.lt
                  have HSd := Lib.hid HSb.out.drew
                  have HRd := Lib.hid HRb.out.drew
                  have HBd := Lib.hid (HBb.out.drew)
                  go_region_held3 (fun w' => w'.cell? ⟨wo.heap.size, 1, none⟩ = some (.int .i64 x) ∧ w'.cell? ⟨w.heap.size + 2, 2, none⟩ = some (.int .i64 x)) (first | exact ⟨d1', hm2⟩ | exact ⟨k1, k2⟩)
                    (first
                      | (go_at_call 21; refine (state_any HSd.out x ⟨x1, x2⟩).mono ?_; rintro e w' ⟨rfl, rfl⟩)
                      | (go_at_call 25; refine (SRef.state_any HRd.out x ⟨x1, x2⟩).mono ?_; rintro e w' ⟨rfl, rfl⟩)
                      | (go_at_call 18; refine (StreamsC.many_any HSd.out hlt81).mono ?_; rintro e wm ⟨rfl, hBm⟩; have k1 := (hBm.cell (p := ⟨wo.heap.size, 1, none⟩) (block_lt_of_cell d1')).trans d1'; have k2 := (hBm.cell (p := ⟨w.heap.size + 2, 2, none⟩) (block_lt_of_cell hm2)).trans hm2; have HS2 := Lib.hid (HSd.out.below hBm hVs.1 hVs.2); have HR2 := Lib.hid (HRd.out.mod (Mod.refl (fun _ => False) _ |>.below hBm (fun k hk h => by omega)) (fun k hk h => h.elim)); have HB2 := Lib.hid (HBd.out.trans (hBm.mono HBd.out.size)); clear hBm)
                      | (go_at_call 26; refine (SRef.many_any HR2.out).mono ?_; rintro e w' ⟨rfl, rfl⟩)
                      | (go_at_call 19; refine (last_any HS2.out).mono ?_; rintro e w' ⟨rfl, rfl⟩))
                  go_wp2
                  go_roundw
                  case rel => exact ⟨k + 1, (putS l x 1), x, by go_num, by omega, by omega, ⟨HS2.out, HR2.out.more (by intro k hk h; omega), HB2.out, allOk_put HOK.out x 1 (by omega), by have := putS_len l x 1; have := HLEN.out; omega, ⟨by omega, x2⟩⟩⟩
                  case measure => simp [intOf]; omega
          · by_cases hput : okId last x ∧ 1 ≤ y ∧ y ≤ 4
            · obtain ⟨hok, hst⟩ := hput
              have hne := state_ne HOK.out last x hok
              have hlt81 : (putS l x y).length < 4294967296 := by have := putS_len l x y; omega
              have HNE := Lib.hid hne
              clear hne
              rcases hcases with ⟨hja, hjb⟩ | hja
              all_goals
                go_wp2_with (first
                  | (go_at_call 22; refine (StreamsC.put_yes HS.out hlt80 x y ⟨x1, x2⟩ HNE.out hst).mono ?_; rintro e w2 ⟨rfl, hS2, hM2⟩; have HSa := Lib.hid hS2; have HRa := Lib.hid (HR.out.mod hM2 (fun k hk h => by omega)); have HBa := Lib.hid (HBW.out.trans (hM2.toBelow HBW.out.size (fun k hk h => by omega))); have da := (hM2.cell (p := ⟨wo.heap.size, 1, none⟩) (block_lt_of_cell d1) (by simp only; omega)).trans d1; have db := (hM2.cell (p := ⟨wo.heap.size, 2, none⟩) (block_lt_of_cell d2) (by simp only; omega)).trans d2; have HNa : Hid (∀ k, (k = w.heap.size + 1 ∨ k = w.heap.size ∨ k = wo.heap.size) → k < w2.heap.size) := fun k hk => Nat.lt_of_lt_of_le (hNlt.out k hk) hM2.size; clear hS2 hM2)
                  | (go_at_call 24; refine (SRef.put_yes HRa.out hlt80 HBa.out.size HNa.out x y ⟨x1, x2⟩ hok hst).mono ?_; rintro e w3 ⟨rfl, hR3, hM3⟩; have HSb := Lib.hid (HSa.out.mod hM3 (fun h => h.1 (.inl rfl)) (fun h => h.1 (.inr (.inl rfl)))); have HRb := Lib.hid hR3; have HBb := Lib.hid (HBa.out.trans (hM3.toBelow HBa.out.size (fun k hk h => by omega))); have dc := (hM3.cell (p := ⟨wo.heap.size, 1, none⟩) (block_lt_of_cell da) (fun h => h.1 (.inr (.inr rfl)))).trans da; clear hR3 hM3))
                have d1' : w3.drew.cell? ⟨wo.heap.size, 1, none⟩ = some (.int .i64 x) := dc
                have hm2 : w3.drew.cell? ⟨w.heap.size + 2, 2, none⟩ = some (.int .i64 last) := HRb.out.last
                have hVs := HSb.out.lt
                have HSd := Lib.hid HSb.out.drew
                have HRd := Lib.hid HRb.out.drew
                have HBd := Lib.hid (HBb.out.drew)
                go_region_held3 (fun w' => w'.cell? ⟨wo.heap.size, 1, none⟩ = some (.int .i64 x) ∧ w'.cell? ⟨w.heap.size + 2, 2, none⟩ = some (.int .i64 last)) (first | exact ⟨d1', hm2⟩ | exact ⟨k1, k2⟩)
                  (first
                    | (go_at_call 21; refine (state_any HSd.out x ⟨x1, x2⟩).mono ?_; rintro e w' ⟨rfl, rfl⟩)
                    | (go_at_call 25; refine (SRef.state_any HRd.out x ⟨x1, x2⟩).mono ?_; rintro e w' ⟨rfl, rfl⟩)
                    | (go_at_call 18; refine (StreamsC.many_any HSd.out hlt81).mono ?_; rintro e wm ⟨rfl, hBm⟩; have k1 := (hBm.cell (p := ⟨wo.heap.size, 1, none⟩) (block_lt_of_cell d1')).trans d1'; have k2 := (hBm.cell (p := ⟨w.heap.size + 2, 2, none⟩) (block_lt_of_cell hm2)).trans hm2; have HS2 := Lib.hid (HSd.out.below hBm hVs.1 hVs.2); have HR2 := Lib.hid (HRd.out.mod (Mod.refl (fun _ => False) _ |>.below hBm (fun k hk h => by omega)) (fun k hk h => h.elim)); have HB2 := Lib.hid (HBd.out.trans (hBm.mono HBd.out.size)); clear hBm)
                    | (go_at_call 26; refine (SRef.many_any HR2.out).mono ?_; rintro e w' ⟨rfl, rfl⟩)
                    | (go_at_call 19; refine (last_any HS2.out).mono ?_; rintro e w' ⟨rfl, rfl⟩))
                go_wp2
                go_roundw
                case rel => exact ⟨k + 1, (putS l x y), last, by go_num, by omega, by omega, ⟨HS2.out, HR2.out.more (by intro k hk h; omega), HB2.out, allOk_put HOK.out x y hst, by have := putS_len l x y; have := HLEN.out; omega, ⟨hla1, hla2⟩⟩⟩
                case measure => simp [intOf]; omega
            · have hz : stateF l last x = 0 ∨ y < 1 ∨ 4 < y := by
                by_cases ho : okId last x
                · right
                  rcases Classical.em (1 ≤ y) with h | h
                  · exact .inr (Classical.byContradiction fun h2 => hput ⟨ho, h, by omega⟩)
                  · exact .inl (by omega)
                · exact .inl (state_eq l last x ho)
              have hz2 : ¬ okId last x ∨ y < 1 ∨ 4 < y := by
                by_cases ho : okId last x
                · right
                  rcases Classical.em (1 ≤ y) with h | h
                  · exact .inr (Classical.byContradiction fun h2 => hput ⟨ho, h, by omega⟩)
                  · exact .inl (by omega)
                · exact .inl ho
              have HZ := Lib.hid hz
              have HZ2 := Lib.hid hz2
              clear hz hz2 hput
              rcases hcases with ⟨hja, hjb⟩ | hja
              all_goals
                go_wp2_with (first
                  | (go_at_call 22; refine (StreamsC.put_no HS.out x y ⟨x1, x2⟩ HZ.out).mono ?_; rintro e w' ⟨rfl, rfl⟩)
                  | (go_at_call 24; refine (SRef.put_no HR.out x y ⟨x1, x2⟩ HZ2.out).mono ?_; rintro e w' ⟨rfl, rfl⟩))
                have d1' : wr.drew.cell? ⟨wo.heap.size, 1, none⟩ = some (.int .i64 x) := d1
                have hm2 : wr.drew.cell? ⟨w.heap.size + 2, 2, none⟩ = some (.int .i64 last) := HR.out.last
                have hVs := HS.out.lt
                have HSd := Lib.hid HS.out.drew
                have HRd := Lib.hid HR.out.drew
                have HBd := Lib.hid (HBW.out.drew)
                go_region_held3 (fun w' => w'.cell? ⟨wo.heap.size, 1, none⟩ = some (.int .i64 x) ∧ w'.cell? ⟨w.heap.size + 2, 2, none⟩ = some (.int .i64 last)) (first | exact ⟨d1', hm2⟩ | exact ⟨k1, k2⟩)
                  (first
                    | (go_at_call 21; refine (state_any HSd.out x ⟨x1, x2⟩).mono ?_; rintro e w' ⟨rfl, rfl⟩)
                    | (go_at_call 25; refine (SRef.state_any HRd.out x ⟨x1, x2⟩).mono ?_; rintro e w' ⟨rfl, rfl⟩)
                    | (go_at_call 18; refine (StreamsC.many_any HSd.out hlt80).mono ?_; rintro e wm ⟨rfl, hBm⟩; have k1 := (hBm.cell (p := ⟨wo.heap.size, 1, none⟩) (block_lt_of_cell d1')).trans d1'; have k2 := (hBm.cell (p := ⟨w.heap.size + 2, 2, none⟩) (block_lt_of_cell hm2)).trans hm2; have HS2 := Lib.hid (HSd.out.below hBm hVs.1 hVs.2); have HR2 := Lib.hid (HRd.out.mod (Mod.refl (fun _ => False) _ |>.below hBm (fun k hk h => by omega)) (fun k hk h => h.elim)); have HB2 := Lib.hid (HBd.out.trans (hBm.mono HBd.out.size)); clear hBm)
                    | (go_at_call 26; refine (SRef.many_any HR2.out).mono ?_; rintro e w' ⟨rfl, rfl⟩)
                    | (go_at_call 19; refine (last_any HS2.out).mono ?_; rintro e w' ⟨rfl, rfl⟩))
                go_wp2
                go_roundw
                case rel => exact ⟨k + 1, l, last, by go_num, by omega, by omega, ⟨HS2.out, HR2.out.more (by intro k hk h; omega), HB2.out, HOK.out, by have := HLEN.out; omega, ⟨hla1, hla2⟩⟩⟩
                case measure => simp [intOf]; omega
    · go_wp2
      all_goals go_ret
      all_goals exact ⟨rfl, HB.out.b⟩
end Go.Proofs.Ytpbaanoheeghlaa.WalkStreamsSeen
