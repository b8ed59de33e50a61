/-
  pump of a connection on which nothing waits.
  Conditions: that its order is nil.
-/
import Derived.Test.YtegngpingfjedaaGreatDoorConnSt
import Derived.Test.YtegngpingfjedaaGreatDoorShelf
import Derived.Deep.CutRange
import Derived.Deep.CutBlock
import Derived.Deep.RegionHeld3
import Derived.Deep.RegionWith
namespace Go.Proofs.YtegngpingfjedaaGreatDoor.ConnS
open Go.RowKit ModL ConnR BA WireBig SlicesB FrameC
set_option linter.unusedVariables false
set_option linter.unusedSimpArgs false

theorem idxf_nil (g : Nat) (lb : Array Value) (w : World) : Calls Tryz.prog 137 #[.slice none 0 0, .func (.func g) #[] lb] w fun e w' => e = .returned (.int .i64 (-1)) ∧ w = w' := by
  go_enter Tryz.func137, Tryz.ntmps137
  go_wp2_with fail
  go_loopw [8] (fun iv wr => iv = .int .i64 0 ∧ w = wr) (fun _ _ => 0)
  case atStart => exact ⟨rfl, rfl⟩
  case round =>
    obtain ⟨rfl, rfl⟩ := hrel
    go_wp2_with fail
    go_ret
    exact ⟨rfl, rfl⟩
theorem delf_nil (g : Nat) (lb : Array Value) (w : World) : Calls Tryz.prog 99 #[.slice none 0 0, .func (.func g) #[] lb] w fun e w' => e = .returned (.slice none 0 0) ∧ w = w' := by
  have HI := Lib.hid (idxf_nil g lb w)
  go_enter Tryz.func99, Tryz.ntmps99
  go_wp2_with (go_at_call 137; (with_reducible refine HI.out.mono ?_); rintro e w1 ⟨rfl, rfl⟩)
  go_ret
  exact ⟨rfl, rfl⟩
theorem upd_id (cs : Nat → Value) (i : Nat) (v : Value) (h : cs i = v) : upd cs i v = cs := by
  funext j
  unfold upd
  split
  · rename_i e; rw [e, h]
  · rfl
theorem keep3 {base g bx : Nat} {w w' : World} {cs : Nat → Value} {inn out : List Int} (hne : bx ≠ g) (h3 : cs 3 = .slice none 0 0) (h : w'.cell? ⟨bx, 0, none⟩ = some (.pointer (some ⟨g, 0, none⟩)) ∧ w'.cell? ⟨g, 3, none⟩ = some (.slice none 0 0) ∧ w'.frozen? ⟨g, 3, none⟩ = false ∧ Cn base w' g cs inn out ∧ Mod (fun k => k = g) w w') :
    (w'.setCell ⟨g, 3, none⟩ (.slice none 0 0)).cell? ⟨bx, 0, none⟩ = some (.pointer (some ⟨g, 0, none⟩)) ∧ (w'.setCell ⟨g, 3, none⟩ (.slice none 0 0)).cell? ⟨g, 3, none⟩ = some (.slice none 0 0) ∧ (w'.setCell ⟨g, 3, none⟩ (.slice none 0 0)).frozen? ⟨g, 3, none⟩ = false ∧ Cn base (w'.setCell ⟨g, 3, none⟩ (.slice none 0 0)) g cs inn out ∧ Mod (fun k => k = g) w (w'.setCell ⟨g, 3, none⟩ (.slice none 0 0)) := by
  obtain ⟨a, b, c, d, e⟩ := h
  have h := d.set 3 (by decide) (by decide) (by decide) (.slice none 0 0)
  rw [upd_id cs 3 _ h3] at h
  exact ⟨(World.cell?_setCell_other _ _ _ _ (by simp [hne, hne.symm])).trans a, World.cell?_setCell_same _ _ _ b, by simpa using c, h, e.setCell (fun _ => rfl) _⟩
set_option maxRecDepth 100000 in
set_option maxHeartbeats 4000000 in
theorem pump_nil {base g : Nat} {w : World} {cs : Nat → Value} {inn out : List Int} (h : Cn base w g cs inn out) (h3 : cs 3 = .slice none 0 0) :
    Calls Tryz.prog 59 #[.pointer (some ⟨g, 0, none⟩)] w fun e w' => e = .returned (.tuple #[]) ∧ Cn base w' g cs inn out ∧ Mod (fun k => k = g) w w' := by
  have c3 := h.r.at_ 3 (by decide)
  have f3 := h.r.fz 3 (by decide)
  rw [h3] at c3
  have hgl := h.r.lt
  have HS := Lib.hid h
  have H3 := Lib.hid h3
  clear h h3
  go_enter Tryz.func59, Tryz.ntmps59
  go_upto_block 0 with (first
    | (go_at_call 97; refine (Tryz.slices_Clone_int_nil 0 0 _).mono ?_; rintro e w1 ⟨rfl, rfl⟩)
    | fail)
  have hB0 : Below w.heap.size w (w.alloc (.cells #[.pointer (some ⟨g, 0, none⟩)] 23)) := (Below.refl _ _).alloc (Nat.le_refl _) _
  have p0 : (w.alloc (.cells #[.pointer (some ⟨g, 0, none⟩)] 23)).cell? ⟨w.heap.size, 0, none⟩ = some (.pointer (some ⟨g, 0, none⟩)) := by simp
  have d3 := (hB0.cell (p := ⟨g, 3, none⟩) hgl).trans c3
  have df3 := (hB0.frozen (p := ⟨g, 3, none⟩) hgl).trans f3
  have HS0 := Lib.hid (HS.out.below hB0)
  have HB0 := Lib.hid hB0
  have hs0 : w.heap.size < (w.alloc (.cells #[.pointer (some ⟨g, 0, none⟩)] 23)).heap.size := by simp
  clear hB0 c3 f3
  generalize w.alloc (.cells #[.pointer (some ⟨g, 0, none⟩)] 23) = w0 at *
  go_wp2_with fail
  go_loopw [16] (fun iv wr => iv = .int .i64 0 ∧ w0 = wr) (fun _ _ => 0)
  case atStart => exact ⟨rfl, rfl⟩
  case round =>
    obtain ⟨rfl, rfl⟩ := hrel
    go_wp2_with fail
    have hne : g ≠ w.heap.size := by omega
    have hne2 : w.heap.size ≠ g := by omega
    have HDE := Lib.hid (fun lb W => delf_nil 100 lb W)
    have hS1 : w0.drew.cell? ⟨w.heap.size, 0, none⟩ = some (.pointer (some ⟨g, 0, none⟩)) ∧ w0.drew.cell? ⟨g, 3, none⟩ = some (.slice none 0 0) ∧ w0.drew.frozen? ⟨g, 3, none⟩ = false ∧ Cn base w0.drew g cs inn out ∧ Mod (fun k => k = g) w w0.drew := ⟨p0, d3, df3, HS0.out.below (w' := w0.drew) (Below.refl _ _).drew, (Mod.ofBelow HB0.out (fun k hk hge => by omega)).drew⟩
    clear p0 d3 df3
    go_region_held3 (fun w' => w'.cell? ⟨w.heap.size, 0, none⟩ = some (.pointer (some ⟨g, 0, none⟩)) ∧ w'.cell? ⟨g, 3, none⟩ = some (.slice none 0 0) ∧ w'.frozen? ⟨g, 3, none⟩ = false ∧ Cn base w' g cs inn out ∧ Mod (fun k => k = g) w w') (first | exact hS1 | exact keep3 hne2 H3.out hS1 | exact hS2 | exact keep3 hne2 H3.out hSw | exact keep3 hne2 H3.out ⟨by assumption, by assumption, by assumption, by assumption, by assumption⟩)
      (first
      | (go_at_call 99; refine (HDE.out _ _).mono ?_; rintro e w1 ⟨rfl, rfl⟩))
    have hF := keep3 hne2 H3.out hS1
    go_wp2_with fail
    go_end0
    exact ⟨rfl, hF.2.2.2.1, hF.2.2.2.2⟩
end Go.Proofs.YtegngpingfjedaaGreatDoor.ConnS
