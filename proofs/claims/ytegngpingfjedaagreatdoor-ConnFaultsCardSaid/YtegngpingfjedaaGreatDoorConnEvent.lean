/-
  event: the first that is told.
  Conditions: none was told.
-/
import Derived.Test.YtegngpingfjedaaGreatDoorConnPump
import Derived.Test.YtegngpingfjedaaGreatDoorRowsK
import Derived.Test.YtegngpingfjedaaGreatDoorRowsMore
import Derived.Test.YtegngpingfjedaaGreatDoorRowsClear
import Derived.WalkSpells
import Derived.Shelf.RegionOpen
import Derived.Shelf.RegionOpenPlain
import Derived.WalkLawsBesides
import Derived.Lib.Walk
import Derived.Lib.SliceRun
import Derived.Deep.QuietTactic
import Derived.BigQuiet
namespace Go.Proofs.YtegngpingfjedaaGreatDoor.ConnS
open Go.RowKit ModL ConnR BA WireBig SlicesB FrameC RowsM
set_option linter.unusedVariables false
set_option linter.unusedSimpArgs false

abbrev Ev6 := Int × Int × Int × Bool
def encEv : RowsK.Enc Ev6 := ⟨6, fun x => [.int .i64 x.1, .int .i64 x.2.1, .int .i64 x.2.2.1, .slice none 0 0, .slice none 0 0, .bool x.2.2.2], fun _ => rfl, fun x v hv => by simp at hv; rcases hv with rfl | rfl | rfl | rfl | rfl <;> rfl, by decide⟩
set_option maxRecDepth 100000 in
theorem elemEv : RowsK.Elem Tryz.prog 39 42 encEv.k 80 := RowsK.Elem.of (z := .agg #[.int .i64 0, .int .i64 0, .int .i64 0, .slice none 0 0, .slice none 0 0, .bool false]) Tryz.underlying39 (by kernel_rfl) rfl (by decide)
/-- The cells of the only event. -/
def OneE (w : World) (b : Nat) (wh st cd : Int) (en : Bool) : Prop := w.cell? ⟨b, 0, none⟩ = some (.int .i64 wh) ∧ w.cell? ⟨b, 1, none⟩ = some (.int .i64 st) ∧ w.cell? ⟨b, 2, none⟩ = some (.int .i64 cd) ∧ b < w.heap.size
set_option maxRecDepth 100000 in
set_option maxHeartbeats 8000000 in
theorem event_nil {base g : Nat} {w : World} {cs : Nat → Value} {inn out : List Int} (h : Cn base w g cs inn out) (h13 : cs 13 = .slice none 0 0) (wh st cd : Int) (en : Bool) :
    Calls Tryz.prog 88 #[.pointer (some ⟨g, 0, none⟩), .agg #[.int .i64 wh, .int .i64 st, .int .i64 cd, .slice none 0 0, .slice none 0 0, .bool en]] w fun e w' => e = .returned (.tuple #[]) ∧ ∃ b c, Cn base w' g (upd cs 13 (.slice (some ⟨b, 0, none⟩) 1 c)) inn out ∧ OneE w' b wh st cd en ∧ w.heap.size ≤ b ∧ Mod (fun k => k = g) w w' := by
  have c13 := h.r.at_ 13 (by decide)
  have f13 := h.r.fz 13 (by decide)
  rw [h13] at c13
  have hgl := h.r.lt
  have HS := Lib.hid h
  clear h h13
  go_enter Tryz.func88, Tryz.ntmps88
  go_wp2_with fail
  have hB0 : Below w.heap.size w (w.alloc (.cells #[.int .i64 wh, .int .i64 st, .int .i64 cd, .slice none 0 0, .slice none 0 0, .bool en] 42)) := (Below.refl _ _).alloc (Nat.le_refl _) _
  have p0 : (w.alloc (.cells #[.int .i64 wh, .int .i64 st, .int .i64 cd, .slice none 0 0, .slice none 0 0, .bool en] 42)).cell? ⟨w.heap.size, 0, none⟩ = some (.int .i64 wh) := by simp
  have p1 : (w.alloc (.cells #[.int .i64 wh, .int .i64 st, .int .i64 cd, .slice none 0 0, .slice none 0 0, .bool en] 42)).cell? ⟨w.heap.size, 1, none⟩ = some (.int .i64 st) := by simp
  have p2 : (w.alloc (.cells #[.int .i64 wh, .int .i64 st, .int .i64 cd, .slice none 0 0, .slice none 0 0, .bool en] 42)).cell? ⟨w.heap.size, 2, none⟩ = some (.int .i64 cd) := by simp
  have p3 : (w.alloc (.cells #[.int .i64 wh, .int .i64 st, .int .i64 cd, .slice none 0 0, .slice none 0 0, .bool en] 42)).cell? ⟨w.heap.size, 3, none⟩ = some (.slice none 0 0) := by simp
  have p4 : (w.alloc (.cells #[.int .i64 wh, .int .i64 st, .int .i64 cd, .slice none 0 0, .slice none 0 0, .bool en] 42)).cell? ⟨w.heap.size, 4, none⟩ = some (.slice none 0 0) := by simp
  have p5 : (w.alloc (.cells #[.int .i64 wh, .int .i64 st, .int .i64 cd, .slice none 0 0, .slice none 0 0, .bool en] 42)).cell? ⟨w.heap.size, 5, none⟩ = some (.bool en) := by simp
  have d13 := (hB0.cell (p := ⟨g, 13, none⟩) hgl).trans c13
  have df13 := (hB0.frozen (p := ⟨g, 13, none⟩) hgl).trans f13
  have hs0 : w.heap.size < (w.alloc (.cells #[.int .i64 wh, .int .i64 st, .int .i64 cd, .slice none 0 0, .slice none 0 0, .bool en] 42)).heap.size := by simp
  have HS0 := Lib.hid (HS.out.below hB0)
  have HB0 := Lib.hid hB0
  clear hB0 c13 f13
  generalize w.alloc (.cells #[.int .i64 wh, .int .i64 st, .int .i64 cd, .slice none 0 0, .slice none 0 0, .bool en] 42) = w0 at *
  have hlit := RowsK.Own.lit (E := encEv) (e := 42) (b := w0.heap.size) w0.drew #[.int .i64 wh, .int .i64 st, .int .i64 cd, .slice none 0 0, .slice none 0 0, .bool en] [(wh, st, cd, en)] (Nat.le_refl _) (by simp) rfl
  obtain ⟨v', W3, hr, ho, hg, hwh⟩ := RowsK.run_append_where elemEv 39 w0.heap.size (RowsK.Own.nil encEv (w0.drew.alloc (.cells #[.int .i64 wh, .int .i64 st, .int .i64 cd, .slice none 0 0, .slice none 0 0, .bool en] 42)) w0.heap.size 42) _ _ hlit.at_ (by simp) (by simp)
  obtain ⟨b, c, rfl, -, -, hbge, hblt, hel⟩ := ho.slice1 1 rfl (by decide)
  have hgl0 : g < w0.heap.size := by omega
  have hb3 : W3.heap[g]? = (w0.drew.alloc (.cells #[.int .i64 wh, .int .i64 st, .int .i64 cd, .slice none 0 0, .slice none 0 0, .bool en] 42)).heap[g]? := hg.block g (by simp; omega) (by simp [Value.ownBlock])
  have hBA : Below w0.heap.size w0 (w0.drew.alloc (.cells #[.int .i64 wh, .int .i64 st, .int .i64 cd, .slice none 0 0, .slice none 0 0, .bool en] 42)) := ((Below.refl _ _).drew).alloc (Nat.le_refl _) _
  have k13 := ((World.cell?_of_block (a := ⟨g, 13, none⟩) hb3).trans (hBA.cell (p := ⟨g, 13, none⟩) hgl0)).trans d13
  have kf13 := ((World.frozen?_of_block (a := ⟨g, 13, none⟩) hb3).trans (hBA.frozen (p := ⟨g, 13, none⟩) hgl0)).trans df13
  have hB3 : Below w0.heap.size w0 W3 := hBA.grown hg (by simp) (fun k hk => by simp [Value.ownBlock] at hk)
  have HB3 := Lib.hid hB3
  have HR := Lib.hid hr
  have HEL : Hid (OneE (W3.setCell ⟨g, 13, none⟩ (.slice (some ⟨b, 0, none⟩) 1 c)) b wh st cd en) := by
    have hne : (⟨b, 0, none⟩ : Addr).block ≠ g := by simp only; omega
    refine ⟨?_, ?_, ?_, by simpa using hblt⟩
    · exact (World.cell?_setCell_other _ _ _ _ (by simp)).trans (hel 0 (by simp) 0 (by decide))
    · exact (World.cell?_setCell_other _ _ _ _ (by simp)).trans (hel 0 (by simp) 1 (by decide))
    · exact (World.cell?_setCell_other _ _ _ _ (by simp)).trans (hel 0 (by simp) 2 (by decide))
  clear hr ho hg hwh hel hlit hBA hB3 hb3
  have mixed : Tryz.prog.follows Departure.mixedOrders = true := by kernel_rfl
  go_region_law_o (refine step_append_run rfl _ _ 39 rfl _ _ (by simp [Act.eval, Act.put]) (by simp [Act.eval, Act.put]) HR.out ?_)
  all_goals
    go_wp2_with fail
    go_end0
    refine ⟨rfl, b, c, ((HS0.out.below HB3.out).set 13 (by decide) (by decide) (by decide) _), HEL.out, by omega, ?_⟩
    have hM : Mod (fun k => k = g) w W3 := Mod.ofBelow (HB0.out.trans (HB3.out.mono HB0.out.size)) (fun k hk hge => by omega)
    exact hM.setCell (fun _ => rfl) _
end Go.Proofs.YtegngpingfjedaaGreatDoor.ConnS
