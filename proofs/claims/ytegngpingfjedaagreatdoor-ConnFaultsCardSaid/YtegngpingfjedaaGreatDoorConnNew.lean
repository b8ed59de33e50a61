/-
  conn.New: a connection begins.
  Conditions: none.
-/
import Derived.Test.YtegngpingfjedaaGreatDoorConnSt
import Derived.Test.YtegngpingfjedaaGreatDoorFlow
import Derived.Test.YtegngpingfjedaaGreatDoorStreams
import Derived.Test.YtegngpingfjedaaGreatDoorHeadNew
namespace Go.Proofs.YtegngpingfjedaaGreatDoor.ConnS
open Go.RowKit ModL ConnR BA WireBig SlicesB FrameC
set_option linter.unusedVariables false
set_option linter.unusedSimpArgs false

theorem window_any (n : Int) (h1 : 0 ≤ n) (h2 : n ≤ 2147483647) (w : World) :
    Calls Tryz.prog 53 #[.int .i64 n] w fun e w' => e = .returned (.agg #[.int .i64 n]) ∧ Below w.heap.size w w' := by
  have HN := Lib.hid (fun W => Flow.new_ok n h1 h2 W)
  clear h1 h2
  go_enter Tryz.func53, Tryz.ntmps53
  go_wp2_with fail
  have hB0 := (Below.refl w.heap.size w).alloc (Nat.le_refl _) (.cells #[.int .i64 0] 97)
  have p0 : (w.alloc (.cells #[.int .i64 0] 97)).cell? ⟨w.heap.size, 0, none⟩ = some (.int .i64 0) := by simp
  have pf : (w.alloc (.cells #[.int .i64 0] 97)).frozen? ⟨w.heap.size, 0, none⟩ = false := by simp
  have hs : w.heap.size < (w.alloc (.cells #[.int .i64 0] 97)).heap.size := by simp
  generalize w.alloc (.cells #[.int .i64 0] 97) = w1 at *
  refine (HN.out w1).mono ?_
  rintro e w2 ⟨rfl, hw2⟩
  have q0 : w2.cell? ⟨w1.heap.size, 0, none⟩ = some (.int .i64 n) := by rw [← hw2]; simp
  have hB1 : Below w1.heap.size w1 w2 := by rw [← hw2]; exact (Below.refl _ _).alloc (Nat.le_refl _) _
  have r0 := (hB1.cell (p := ⟨w.heap.size, 0, none⟩) hs).trans p0
  have rf := (hB1.frozen (p := ⟨w.heap.size, 0, none⟩) hs).trans pf
  have HB := Lib.hid (hB0.trans (hB1.mono (by omega)))
  clear hw2 hB1 p0 pf hB0
  go_wp2_with fail
  have z0 := World.cell?_setCell_same _ _ (.int .i64 n) r0
  refine bodyPost_ret (v := .agg #[.int .i64 n]) (by simp [results, Tryz.results53, go_sem, z0]) rfl ⟨rfl, ?_⟩
  exact HB.out.setCell (Nat.le_refl _) _
/-- The cells of a connection that began. -/
def csN (co st m : Nat) : Nat → Value := fun i => #[Value.pointer (some ⟨co, 0, none⟩), .pointer (some ⟨st, 0, none⟩), .map (some m), .slice none 0 0, .slice none 0 0, .slice none 0 0, .int .i64 2000, .int .i64 2000, .int .i64 2000, .int .i64 0, .bool false, .bool false, .pointer none, .slice none 0 0].getD i undef
set_option maxRecDepth 100000 in
set_option maxHeartbeats 4000000 in
/-- What a new connection's coder, streams and map of channels are; all of it lies from B on, ahead of g. -/
def New0 (B g co st m : Nat) (w : World) : Prop :=
  (∃ ms, StreamsC.IsStreams w st ms [] 0 ∧ (B ≤ st ∧ st < g) ∧ (B ≤ ms ∧ ms < g)) ∧ (MapsL.MapIs w Tryz.prog 3 m [] ∧ B ≤ m ∧ m < g) ∧
  (∃ bo bi Oo Oi, HeadF.IsCoder w co bo bi 4096 Oo Oi [] [] 0 0 false ∧ (B ≤ co ∧ co < g) ∧ (B ≤ bo ∧ bo < g) ∧ (B ≤ bi ∧ bi < g) ∧ (∀ k, Oo = some k → B ≤ k ∧ k < g) ∧ (∀ k, Oi = some k → B ≤ k ∧ k < g))
theorem cnew_all (w : World) : Calls Tryz.prog 20 #[] w fun e w' => ∃ g co st m v', e = .returned (.pointer (some ⟨g, 0, none⟩)) ∧ Cn (g + 1) w' g (upd (csN co st m) 5 v') [] (Fr.mk 4 0 0 []).bytes ∧ Below w.heap.size w w' ∧ w.heap.size ≤ g ∧ New0 w.heap.size g co st m w' := by
  have HW := Lib.hid (fun W => window_any 2000 (by decide) (by decide) W)
  have hmm := @run_makeMap Tryz.prog
  go_enter Tryz.func20, Tryz.ntmps20
  go_wp2_with (first
    | (go_at_call 9; refine (HeadF.hnew_ok 4096 w (by decide)).mono ?_; rintro e w1 ⟨co, bo, bi, OA, PA, rfl, hco, hc1, hc2, hc3, hc4, hc5, hB1⟩; have HB1 := Lib.hid hB1; have HCO := Lib.hid (And.intro hco (And.intro hc1 (And.intro hc2 (And.intro hc3 (And.intro hc4 hc5))))); clear hB1 hco hc1 hc2 hc3 hc4 hc5)
    | (go_at_call 52; refine (StreamsC.new_any w1).mono ?_; rintro e w2 ⟨rfl, hS, hB2, hs2⟩; have HB12 := Lib.hid hB2; have HS2 := Lib.hid hS; have HB2 := Lib.hid (HB1.out.trans (hB2.mono HB1.out.size)); clear hB2 hs2 hS)
    | (go_at_call 53; refine (HW.out _).mono ?_; rintro e w3 ⟨rfl, hB3⟩; have HB23 := Lib.hid hB3; have hs3 := hB3.size; have HB3 := Lib.hid (HB2.out.trans ((((Below.refl w2.heap.size w2).alloc (Nat.le_refl _) _).trans (hB3.mono (by simp))).mono HB2.out.size)); clear hB3 hs3)
    | (go_at_call 53; refine (HW.out w3).mono ?_; rintro e w4 ⟨rfl, hB4⟩; have HB34 := Lib.hid hB4; have HB4 := Lib.hid (HB3.out.trans (hB4.mono HB3.out.size)); clear hB4)
    | fail)
  have hCR : CR 14 (w4.alloc (.cells #[.pointer (some ⟨co, 0, none⟩), .pointer (some ⟨w1.heap.size + 1, 0, none⟩), .map (some w2.heap.size), .slice none 0 0, .slice none 0 0, .slice none 0 0, .int .i64 2000, .int .i64 2000, .int .i64 2000, .int .i64 0, .bool false, .bool false, .pointer none, .slice none 0 0] 100)) w4.heap.size (csN co (w1.heap.size + 1) w2.heap.size) := by
    refine ⟨fun i hi => ?_, fun i hi => by simp, by simp⟩
    rcases i with _ | _ | _ | _ | _ | _ | _ | _ | _ | _ | _ | _ | _ | _ | i
    all_goals first | (simp [csN]; done) | omega
  have HCn : Hid (Cn (w4.heap.size + 1) (w4.alloc (.cells #[.pointer (some ⟨co, 0, none⟩), .pointer (some ⟨w1.heap.size + 1, 0, none⟩), .map (some w2.heap.size), .slice none 0 0, .slice none 0 0, .slice none 0 0, .int .i64 2000, .int .i64 2000, .int .i64 2000, .int .i64 0, .bool false, .bool false, .pointer none, .slice none 0 0] 100)) w4.heap.size (csN co (w1.heap.size + 1) w2.heap.size) [] []) :=
    ⟨hCR, BytesL.Own.nil _ _, BytesL.Own.nil _ _, fun k hk => by simp [csN, Value.ownBlock] at hk, Nat.lt_succ_self _, by simp⟩
  have HBA : Hid (Below w.heap.size w (w4.alloc (.cells #[.pointer (some ⟨co, 0, none⟩), .pointer (some ⟨w1.heap.size + 1, 0, none⟩), .map (some w2.heap.size), .slice none 0 0, .slice none 0 0, .slice none 0 0, .int .i64 2000, .int .i64 2000, .int .i64 2000, .int .i64 0, .bool false, .bool false, .pointer none, .slice none 0 0] 100))) := HB4.out.alloc HB4.out.size _
  have HSY := Lib.hid (say_any HCn.out (Fr.mk 4 0 0 []) (.slice none 0 0) ⟨none, 0, rfl, by simp [BytesL.valB], by simp, by simp, by simp [BytesL.valB]⟩ ⟨⟨by decide, by decide⟩, ⟨by decide, by decide⟩, by decide, by decide⟩ (by decide) (by decide))
  have HG4 := Lib.hid HB4.out.size
  have HWA : Hid (Below w4.heap.size w4 (w4.alloc (.cells #[.pointer (some ⟨co, 0, none⟩), .pointer (some ⟨w1.heap.size + 1, 0, none⟩), .map (some w2.heap.size), .slice none 0 0, .slice none 0 0, .slice none 0 0, .int .i64 2000, .int .i64 2000, .int .i64 2000, .int .i64 0, .bool false, .bool false, .pointer none, .slice none 0 0] 100))) := (Below.refl _ _).alloc (Nat.le_refl _) _
  clear hCR hmm
  generalize w4.alloc (.cells #[.pointer (some ⟨co, 0, none⟩), .pointer (some ⟨w1.heap.size + 1, 0, none⟩), .map (some w2.heap.size), .slice none 0 0, .slice none 0 0, .slice none 0 0, .int .i64 2000, .int .i64 2000, .int .i64 2000, .int .i64 0, .bool false, .bool false, .pointer none, .slice none 0 0] 100) = wa at *
  go_wp2_with (first
    | (go_at_call 54; refine HSY.out.mono ?_; rintro e w5 ⟨rfl, v5, hC5, hM5⟩; have HC5 := Lib.hid hC5; have HM5 := Lib.hid hM5; clear hC5 hM5)
    | fail)
  go_ret
  have hG1 : Below w4.heap.size w4 w5 := by
    refine HWA.out.trans (HM5.out.toBelow (B := w4.heap.size) HWA.out.size ?_)
    rintro k hk (e | e)
    · omega
    · simp [csN, Value.ownBlock] at e
  have l1 := HS2.out.lt
  have l2 : w2.heap.size + 1 ≤ w3.heap.size := by have h := HB23.out.size; simpa using h
  have l3 := HB34.out.size
  have l0 := HB12.out.size
  have lw := HB1.out.size
  have hB25 : Below w2.heap.size w2 w5 := (((Below.refl w2.heap.size w2).alloc (Nat.le_refl _) (.map #[] 0)).trans (HB23.out.mono (by simp))).trans ((HB34.out.mono (by omega)).trans (hG1.mono (by omega)))
  refine ⟨w4.heap.size, co, w1.heap.size + 1, w2.heap.size, v5, rfl, HC5.out, ?_, HG4.out, ?_⟩
  · exact HB4.out.trans (hG1.mono (by omega))
  · refine ⟨⟨w1.heap.size, HS2.out.below hB25 (by omega) (by omega), ⟨by omega, by omega⟩, by omega, by omega⟩, ⟨?_, by omega, by omega⟩, ?_⟩
    · exact (MapsL.MapIs.made w2 Tryz.prog 3).below (B := w2.heap.size + 1) ((by simpa using HB23.out : Below (w2.heap.size + 1) (w2.alloc (.map #[] 0)) w3).trans ((HB34.out.mono (by omega)).trans (hG1.mono (by omega)))) (by omega)
    · obtain ⟨hco, h1, h2, h3, h4, h5⟩ := HCO.out
      have hc := block_lt_of_cell hco.c0
      have ho := hco.out.lt
      have hi := hco.inn.lt
      simp only at hc
      refine ⟨bo, bi, OA, PA, hco.old ((HB12.out).trans (hB25.mono (by omega))), ⟨h1, by omega⟩, ⟨h2, by omega⟩, ⟨h3, by omega⟩, fun k hk => ⟨h4 k hk, ?_⟩, fun k hk => ⟨h5 k hk, ?_⟩⟩
      · have := (hco.ho k hk).2.2; omega
      · have := (hco.hi k hk).2.2; omega
theorem cnew_any (w : World) : Calls Tryz.prog 20 #[] w fun e w' => ∃ g co st m v', e = .returned (.pointer (some ⟨g, 0, none⟩)) ∧ Cn (g + 1) w' g (upd (csN co st m) 5 v') [] (Fr.mk 4 0 0 []).bytes ∧ Below w.heap.size w w' ∧ w.heap.size ≤ g :=
  (cnew_all w).mono fun e w' ⟨g, co, st, m, v', a, b, c, d, _⟩ => ⟨g, co, st, m, v', a, b, c, d⟩
end Go.Proofs.YtegngpingfjedaaGreatDoor.ConnS
