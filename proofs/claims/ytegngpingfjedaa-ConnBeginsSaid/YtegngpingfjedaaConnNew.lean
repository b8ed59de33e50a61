/-
  conn.New: a connection begins.
  Conditions: none.
-/
import Derived.Test.YtegngpingfjedaaConnSt
import Derived.Test.YtegngpingfjedaaFlow
import Derived.Test.YtegngpingfjedaaStreams
import Derived.Test.YtegngpingfjedaaHeadNew
namespace Go.Proofs.Ytegngpingfjedaa.ConnS
open Go.RowKit ModL ConnR BA WireBig SlicesB FrameC
set_option linter.unusedVariables false
set_option linter.unusedSimpArgs false

theorem window_any (n : Int) (h1 : 0 ≤ n) (h2 : n ≤ 2147483647) (w : World) :
    Calls Try.prog 13 #[.int .i64 n] w fun e w' => e = .returned (.agg #[.int .i64 n]) ∧ Below w.heap.size w w' := by
  have HN := Lib.hid (fun W => Flow.new_ok n h1 h2 W)
  clear h1 h2
  go_enter Try.func13, Try.ntmps13
  go_wp2_with fail
  have hB0 := (Below.refl w.heap.size w).alloc (Nat.le_refl _) (.cells #[.int .i64 0] 50)
  have p0 : (w.alloc (.cells #[.int .i64 0] 50)).cell? ⟨w.heap.size, 0, none⟩ = some (.int .i64 0) := by simp
  have pf : (w.alloc (.cells #[.int .i64 0] 50)).frozen? ⟨w.heap.size, 0, none⟩ = false := by simp
  have hs : w.heap.size < (w.alloc (.cells #[.int .i64 0] 50)).heap.size := by simp
  generalize w.alloc (.cells #[.int .i64 0] 50) = w1 at *
  refine (HN.out w1).mono ?_
  rintro e w2 ⟨rfl, hw2⟩
  have q0 : w2.cell? ⟨w1.heap.size, 0, none⟩ = some (.int .i64 n) := by rw [← hw2]; simp
  have hB1 : Below w1.heap.size w1 w2 := by rw [← hw2]; exact (Below.refl _ _).alloc (Nat.le_refl _) _
  have r0 := (hB1.cell (p := ⟨w.heap.size, 0, none⟩) hs).trans p0
  have rf := (hB1.frozen (p := ⟨w.heap.size, 0, none⟩) hs).trans pf
  have HB := Lib.hid (hB0.trans (hB1.mono (by omega)))
  clear hw2 hB1 p0 pf hB0
  go_wp2_with fail
  have z0 := World.cell?_setCell_same _ _ (.int .i64 n) r0
  refine bodyPost_ret (v := .agg #[.int .i64 n]) (by simp [results, Try.results13, go_sem, z0]) rfl ⟨rfl, ?_⟩
  exact HB.out.setCell (Nat.le_refl _) _
/-- The cells of a connection that began. -/
def csN (co st m : Nat) : Nat → Value := fun i => #[Value.pointer (some ⟨co, 0, none⟩), .pointer (some ⟨st, 0, none⟩), .map (some m), .slice none 0 0, .slice none 0 0, .slice none 0 0, .int .i64 2000, .int .i64 2000, .int .i64 2000, .int .i64 0, .bool false, .bool false, .pointer none, .slice none 0 0].getD i undef
set_option maxRecDepth 100000 in
set_option maxHeartbeats 4000000 in
theorem cnew_any (w : World) : Calls Try.prog 4 #[] w fun e w' => ∃ g co st m v', e = .returned (.pointer (some ⟨g, 0, none⟩)) ∧ Cn (g + 1) w' g (upd (csN co st m) 5 v') [] (Fr.mk 4 0 0 []).bytes ∧ Below w.heap.size w w' ∧ w.heap.size ≤ g := by
  have HW := Lib.hid (fun W => window_any 2000 (by decide) (by decide) W)
  have hmm := @run_makeMap Try.prog
  go_enter Try.func4, Try.ntmps4
  go_wp2_with (first
    | (go_at_call 11; refine (HeadF.hnew_ok 4096 w (by decide)).mono ?_; rintro e w1 ⟨co, bo, bi, OA, PA, rfl, -, -, -, -, -, -, hB1⟩; have HB1 := Lib.hid hB1; clear hB1)
    | (go_at_call 12; refine (StreamsC.new_any w1).mono ?_; rintro e w2 ⟨rfl, hS, hB2, hs2⟩; have HB2 := Lib.hid (HB1.out.trans (hB2.mono HB1.out.size)); clear hB2 hs2 hS)
    | (go_at_call 13; refine (HW.out _).mono ?_; rintro e w3 ⟨rfl, hB3⟩; have hs3 := hB3.size; have HB3 := Lib.hid (HB2.out.trans ((((Below.refl w2.heap.size w2).alloc (Nat.le_refl _) _).trans (hB3.mono (by simp))).mono HB2.out.size)); clear hB3 hs3)
    | (go_at_call 13; refine (HW.out w3).mono ?_; rintro e w4 ⟨rfl, hB4⟩; have HB4 := Lib.hid (HB3.out.trans (hB4.mono HB3.out.size)); clear hB4)
    | fail)
  have hCR : CR 14 (w4.alloc (.cells #[.pointer (some ⟨co, 0, none⟩), .pointer (some ⟨w1.heap.size + 1, 0, none⟩), .map (some w2.heap.size), .slice none 0 0, .slice none 0 0, .slice none 0 0, .int .i64 2000, .int .i64 2000, .int .i64 2000, .int .i64 0, .bool false, .bool false, .pointer none, .slice none 0 0] 55)) w4.heap.size (csN co (w1.heap.size + 1) w2.heap.size) := by
    refine ⟨fun i hi => ?_, fun i hi => by simp, by simp⟩
    rcases i with _ | _ | _ | _ | _ | _ | _ | _ | _ | _ | _ | _ | _ | _ | i
    all_goals first | (simp [csN]; done) | omega
  have HCn : Hid (Cn (w4.heap.size + 1) (w4.alloc (.cells #[.pointer (some ⟨co, 0, none⟩), .pointer (some ⟨w1.heap.size + 1, 0, none⟩), .map (some w2.heap.size), .slice none 0 0, .slice none 0 0, .slice none 0 0, .int .i64 2000, .int .i64 2000, .int .i64 2000, .int .i64 0, .bool false, .bool false, .pointer none, .slice none 0 0] 55)) w4.heap.size (csN co (w1.heap.size + 1) w2.heap.size) [] []) :=
    ⟨hCR, BytesL.Own.nil _ _, BytesL.Own.nil _ _, fun k hk => by simp [csN, Value.ownBlock] at hk, Nat.lt_succ_self _, by simp⟩
  have HBA : Hid (Below w.heap.size w (w4.alloc (.cells #[.pointer (some ⟨co, 0, none⟩), .pointer (some ⟨w1.heap.size + 1, 0, none⟩), .map (some w2.heap.size), .slice none 0 0, .slice none 0 0, .slice none 0 0, .int .i64 2000, .int .i64 2000, .int .i64 2000, .int .i64 0, .bool false, .bool false, .pointer none, .slice none 0 0] 55))) := HB4.out.alloc HB4.out.size _
  have HSY := Lib.hid (say_any HCn.out (Fr.mk 4 0 0 []) (.slice none 0 0) ⟨none, 0, rfl, by simp [BytesL.valB], by simp, by simp, by simp [BytesL.valB]⟩ ⟨⟨by decide, by decide⟩, ⟨by decide, by decide⟩, by decide, by decide⟩ (by decide) (by decide))
  have HG4 := Lib.hid HB4.out.size
  clear hCR hmm
  generalize w4.alloc (.cells #[.pointer (some ⟨co, 0, none⟩), .pointer (some ⟨w1.heap.size + 1, 0, none⟩), .map (some w2.heap.size), .slice none 0 0, .slice none 0 0, .slice none 0 0, .int .i64 2000, .int .i64 2000, .int .i64 2000, .int .i64 0, .bool false, .bool false, .pointer none, .slice none 0 0] 55) = wa at *
  go_wp2_with (first
    | (go_at_call 14; refine HSY.out.mono ?_; rintro e w5 ⟨rfl, v5, hC5, hM5⟩; have HC5 := Lib.hid hC5; have HM5 := Lib.hid hM5; clear hC5 hM5)
    | fail)
  go_ret
  refine ⟨w4.heap.size, co, w1.heap.size + 1, w2.heap.size, v5, rfl, HC5.out, ?_, HG4.out⟩
  refine HBA.out.trans (HM5.out.toBelow (B := w.heap.size) HBA.out.size ?_)
  rintro k hk (e | e)
  · have := HG4.out; omega
  · simp [csN, Value.ownBlock] at e
end Go.Proofs.Ytegngpingfjedaa.ConnS
