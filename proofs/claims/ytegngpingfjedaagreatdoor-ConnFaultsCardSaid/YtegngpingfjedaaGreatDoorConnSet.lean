/-
  frame.Check of Set without settings.
  Conditions: none.
-/
import Derived.Test.YtegngpingfjedaaGreatDoorConnCheck
import Derived.Test.YtegngpingfjedaaGreatDoorChunkIter
import Derived.Test.YtegngpingfjedaaGreatDoorOrders
import Derived.Stop.RegionWithIn
import Derived.OwnWalkIn
namespace Go.Proofs.YtegngpingfjedaaGreatDoor.ConnS
open Go.RowKit Go.Shelf ModL ConnR BA WireBig SlicesB FrameC ChunkI
set_option linter.unusedVariables false
set_option linter.unusedSimpArgs false

theorem chunk_stopsE (n sz Bs Bn cap : Nat) (a : Option Addr) (w : World) (hbs : Bs < w.heap.size) (hBs : w.cell? ⟨Bs, 0, none⟩ = some (.slice a 0 cap)) :
    SeqStopsK Fence.wide n Tryz.prog 106 #[.pointer (some ⟨Bs, 0, none⟩), .pointer (some ⟨Bn, 0, none⟩)] (fun x : Empty => #[]) (KpC Bs Bn) (fun ys => ys = []) (fun _ => True) 0 w := fun l J Jx W hW hJ _ hY h0 => by
  have hBs' := (hW.cell (p := ⟨Bs, 0, none⟩) hbs).trans hBs
  refine (chunk1_zero n l Bs Bn cap sz a J W hBs' h0).mono ?_
  rintro e W' ⟨he, hj⟩
  exact ⟨he, .inl ⟨[], rfl, hj⟩⟩
set_option maxRecDepth 100000 in
set_option maxHeartbeats 4000000 in
theorem sizes_set (a : Option Addr) (c : Nat) (w : World) :
    Calls Tryz.prog 64 #[.agg #[.int .i64 4, .int .i64 0, .int .i64 0, .slice a 0 c]] w fun e w' => e = .returned (.bool true) ∧ Below w.heap.size w w' := by
  go_enter Tryz.func64, Tryz.ntmps64
  go_wp2_with fail
  go_ret
  exact ⟨rfl, (Below.refl _ _).alloc (Nat.le_refl _) _⟩
set_option maxRecDepth 100000 in
set_option maxHeartbeats 4000000 in
theorem check_set (a : Option Addr) (c : Nat) (w : World) :
    Calls Tryz.prog 29 #[.agg #[.int .i64 4, .int .i64 0, .int .i64 0, .slice a 0 c]] w fun e w' => e = .returned (.int .i64 0) ∧ Below w.heap.size w w' := by
  have HS := fun W => sizes_set a c W
  have HCH := fun W => (callsIn_wide (n := 9)).1 (chunk_in Fence.wide 9 trivial rfl a 0 c 6 (by decide) W)
  refine (callsIn_wide (n := 9)).1 ?_
  refine callsIn_of_wp_marks Tryz.func29 rfl trivial ?_ rfl
  simp only [Tryz.ntmps29, List.size_toArray, List.length_cons, List.length_nil, Nat.reduceAdd, Nat.reduceSub, Array.replicate_succ, Array.replicate_zero, List.push_toArray, List.append_toArray, List.nil_append, List.cons_append]
  refine (wpIn_wide (n := 9)).2 ?_
  go_upto_region 13 with fail
  have hB0 : Below w.heap.size w ((w.alloc (.cells #[.int .i64 4, .int .i64 0, .int .i64 0, .slice a 0 c] 38)).alloc (.cells #[.int .i64 0] 3)) := ((Below.refl _ _).alloc (Nat.le_refl _) _).alloc (by simp) _
  have p0 : ((w.alloc (.cells #[.int .i64 4, .int .i64 0, .int .i64 0, .slice a 0 c] 38)).alloc (.cells #[.int .i64 0] 3)).cell? ⟨w.heap.size, 0, none⟩ = some (.int .i64 4) := (cell_alloc (w.alloc (.cells #[.int .i64 4, .int .i64 0, .int .i64 0, .slice a 0 c] 38)) _ w.heap.size 0 (by simp)).trans (by simp)
  have p1 : ((w.alloc (.cells #[.int .i64 4, .int .i64 0, .int .i64 0, .slice a 0 c] 38)).alloc (.cells #[.int .i64 0] 3)).cell? ⟨w.heap.size, 1, none⟩ = some (.int .i64 0) := (cell_alloc (w.alloc (.cells #[.int .i64 4, .int .i64 0, .int .i64 0, .slice a 0 c] 38)) _ w.heap.size 1 (by simp)).trans (by simp)
  have p2 : ((w.alloc (.cells #[.int .i64 4, .int .i64 0, .int .i64 0, .slice a 0 c] 38)).alloc (.cells #[.int .i64 0] 3)).cell? ⟨w.heap.size, 2, none⟩ = some (.int .i64 0) := (cell_alloc (w.alloc (.cells #[.int .i64 4, .int .i64 0, .int .i64 0, .slice a 0 c] 38)) _ w.heap.size 2 (by simp)).trans (by simp)
  have p3 : ((w.alloc (.cells #[.int .i64 4, .int .i64 0, .int .i64 0, .slice a 0 c] 38)).alloc (.cells #[.int .i64 0] 3)).cell? ⟨w.heap.size, 3, none⟩ = some (.slice a 0 c) := (cell_alloc (w.alloc (.cells #[.int .i64 4, .int .i64 0, .int .i64 0, .slice a 0 c] 38)) _ w.heap.size 3 (by simp)).trans (by simp)
  have r0 : ((w.alloc (.cells #[.int .i64 4, .int .i64 0, .int .i64 0, .slice a 0 c] 38)).alloc (.cells #[.int .i64 0] 3)).cell? ⟨w.heap.size + 1, 0, none⟩ = some (.int .i64 0) := by
    have h : w.heap.size + 1 = (w.alloc (.cells #[.int .i64 4, .int .i64 0, .int .i64 0, .slice a 0 c] 38)).heap.size := by simp
    rw [h]; simp
  have rf : ((w.alloc (.cells #[.int .i64 4, .int .i64 0, .int .i64 0, .slice a 0 c] 38)).alloc (.cells #[.int .i64 0] 3)).frozen? ⟨w.heap.size + 1, 0, none⟩ = false := by
    have h : w.heap.size + 1 = (w.alloc (.cells #[.int .i64 4, .int .i64 0, .int .i64 0, .slice a 0 c] 38)).heap.size := by simp
    rw [h]; simp
  have hs : w.heap.size + 1 < ((w.alloc (.cells #[.int .i64 4, .int .i64 0, .int .i64 0, .slice a 0 c] 38)).alloc (.cells #[.int .i64 0] 3)).heap.size := by simp
  generalize ((w.alloc (.cells #[.int .i64 4, .int .i64 0, .int .i64 0, .slice a 0 c] 38)).alloc (.cells #[.int .i64 0] 3)) = W0 at *
  go_wp2_with (first
    | (go_at_call 64; refine (HS W0).mono ?_; rintro e w2 ⟨rfl, hB2⟩; have q0 := (hB2.cell (p := ⟨w.heap.size, 0, none⟩) (Nat.lt_trans (Nat.lt_succ_self _) hs)).trans p0; have q3 := (hB2.cell (p := ⟨w.heap.size, 3, none⟩) (Nat.lt_trans (Nat.lt_succ_self _) hs)).trans p3; have s0 := (hB2.cell (p := ⟨w.heap.size + 1, 0, none⟩) hs).trans r0; have sf := (hB2.frozen (p := ⟨w.heap.size + 1, 0, none⟩) hs).trans rf; have hs2 := Nat.lt_of_lt_of_le hs hB2.size; have HB2 := Lib.hid (hB0.trans (hB2.mono hB0.size)); clear hB2 p0 p3 r0 rf hB0)
    | (go_at_call 66; refine (HCH _).mono ?_; rintro e w' ⟨rfl, rfl⟩)
    | fail)
  have hB1 : Below w2.heap.size w2 ((w2.alloc (.cells #[.slice a 0 c] 30)).alloc (.cells #[.int .i64 6] 3)) := ((Below.refl _ _).alloc (Nat.le_refl _) _).alloc (by simp) _
  have hcs : ((w2.alloc (.cells #[.slice a 0 c] 30)).alloc (.cells #[.int .i64 6] 3)).cell? ⟨w2.heap.size, 0, none⟩ = some (.slice a 0 c) := (cell_alloc (w2.alloc (.cells #[.slice a 0 c] 30)) _ w2.heap.size 0 (by simp)).trans (by simp)
  have hsz : ((w2.alloc (.cells #[.slice a 0 c] 30)).alloc (.cells #[.int .i64 6] 3)).heap.size = w2.heap.size + 2 := by simp
  have t0 := (hB1.cell (p := ⟨w.heap.size + 1, 0, none⟩) hs2).trans s0
  have tf := (hB1.frozen (p := ⟨w.heap.size + 1, 0, none⟩) hs2).trans sf
  have HB1 := Lib.hid (HB2.out.trans (hB1.mono HB2.out.size))
  clear hB1 s0 sf q0 q3 HS HCH
  have hW : ((w2.alloc (.cells #[.slice a 0 c] 30)).alloc (.cells #[.int .i64 6] 3)) = ((w2.alloc (.cells #[.slice a 0 c] 30)).alloc (.cells #[.int .i64 6] 3)) := rfl
  generalize ((w2.alloc (.cells #[.slice a 0 c] 30)).alloc (.cells #[.int .i64 6] 3)) = W1 at *
  have hst := chunk_stopsE (9 - 1) 6 w2.heap.size (w2.heap.size + 1) c a W1 (by omega) hcs
  refine (wpIn_wide (n := 9)).1 ?_
  refine wpIn_rangeFunc_ownG (α := Empty) rfl (by decide) (gf := 106) (lb := #[.pointer (some ⟨w2.heap.size, 0, none⟩), .pointer (some ⟨w2.heap.size + 1, 0, none⟩)]) rfl trivial (enters_of Tryz.func106 (by kernel_rfl) rfl) hst (fun h k => h.trans k) (KpC.put (by omega) (by omega)) (Below.refl _ _) (fun x => x.elim)
    (fun pre W => Below W1.heap.size W1 W) (fun _ _ _ => False) (ownFrom_below (Nat.le_refl _) (Nat.le_refl _)) (fun _ _ _ _ _ hs _ _ => hs) (Below.refl _ _) (fun x => x.elim) ?assign ?body ?done ?stop
  case assign => intro l x; exact x.elim
  case body => intro l pre x; exact x.elim
  case stop =>
    rintro D c pre W _ _ h _
    exact h.elim
  case done =>
    rintro D xs W hD hS hBW hK
    have u0 := (hBW.cell (p := ⟨w.heap.size + 1, 0, none⟩) (by simp only; omega)).trans t0
    have uf := (hBW.frozen (p := ⟨w.heap.size + 1, 0, none⟩) (by simp only; omega)).trans tf
    go_wp2_with fail
    have z0 := World.cell?_setCell_same _ _ (.int .i64 0) u0
    have hDW : D < W.heap.size := (Array.getElem?_eq_some_iff.1 hK).1
    have hK2 : (W.setCell ⟨w.heap.size + 1, 0, none⟩ (.int .i64 0)).heap[D]? = some (.deferred (some [])) := (set_block _ _ _ hDW (by simp only; omega)).trans hK
    have hBP := belowK_b (w := W1) (Nat.le_refl _) (W.setCell ⟨w.heap.size + 1, 0, none⟩ (.int .i64 0)) D _ (.deferred none) hD hK2 rfl rfl
    have z1 := (hBP.cell (p := ⟨w.heap.size + 1, 0, none⟩) (by simp only; omega)).trans z0
    refine ⟨by simp, .inl ⟨_, _, rfl, run_takeDeferred hK2, ?_⟩⟩
    refine ⟨.int .i64 0, by simp [results, Tryz.results29, go_sem, z1], rfl, ?_⟩
    have hBF := (HB1.out.trans (hBW.mono HB1.out.size)).setCell (p := ⟨w.heap.size + 1, 0, none⟩) (by simp) (.int .i64 0)
    exact hBF.trans (hBP.mono (by have := HB1.out.size; omega))
end Go.Proofs.YtegngpingfjedaaGreatDoor.ConnS
