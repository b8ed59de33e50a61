/-
  settings of Set without settings.
  Conditions: nothing waits.
-/
import Derived.Test.YtegngpingfjedaaGreatDoorConnSet
import Derived.Test.YtegngpingfjedaaGreatDoorConnPump
namespace Go.Proofs.YtegngpingfjedaaGreatDoor.ConnS
open Go.RowKit Go.Shelf ModL ConnR BA WireBig SlicesB FrameC ChunkI
set_option linter.unusedVariables false
set_option linter.unusedSimpArgs false

set_option maxRecDepth 100000 in
set_option maxHeartbeats 8000000 in
theorem settings_nil {base g : Nat} {w : World} {cs : Nat → Value} {inn out : List Int} (h : Cn base w g cs inn out) (h3 : cs 3 = .slice none 0 0) (hlen : out.length ≤ 1099511627776) (a : Option Addr) (c : Nat) :
    Calls Tryz.prog 89 #[.pointer (some ⟨g, 0, none⟩), .slice a 0 c] w fun e w' => e = .returned (.tuple #[]) ∧ ∃ v', Cn base w' g (upd cs 5 v') inn (out ++ (Fr.mk 4 1 0 []).bytes) ∧ Mod (fun k => k = g ∨ some k = (cs 5).ownBlock) w w' := by
  have HCH := fun W => (callsIn_wide (n := 9)).1 (chunk_in Fence.wide 9 trivial rfl a 0 c 6 (by decide) W)
  have hgl := h.r.lt
  have HS := Lib.hid h
  have H3 := Lib.hid h3
  have HLN := Lib.hid hlen
  clear h h3 hlen
  refine (callsIn_wide (n := 9)).1 ?_
  refine callsIn_of_wp_marks Tryz.func89 rfl trivial ?_ rfl
  simp only [Tryz.ntmps89, List.size_toArray, List.length_cons, List.length_nil, Nat.reduceAdd, Nat.reduceSub, Array.replicate_succ, Array.replicate_zero, List.push_toArray, List.append_toArray, List.nil_append, List.cons_append]
  refine (wpIn_wide (n := 9)).2 ?_
  go_wp2_with (first
    | (go_at_call 66; refine (HCH _).mono ?_; rintro e w' ⟨rfl, rfl⟩)
    | fail)
  have hB0 : Below w.heap.size w (w.alloc (.cells #[.pointer (some ⟨g, 0, none⟩)] 23)) := (Below.refl _ _).alloc (Nat.le_refl _) _
  have p0 : (w.alloc (.cells #[.pointer (some ⟨g, 0, none⟩)] 23)).cell? ⟨w.heap.size, 0, none⟩ = some (.pointer (some ⟨g, 0, none⟩)) := by simp
  have hz2 : (w.alloc (.cells #[.pointer (some ⟨g, 0, none⟩)] 23)).heap.size = w.heap.size + 1 := by simp
  have hs0 : w.heap.size < (w.alloc (.cells #[.pointer (some ⟨g, 0, none⟩)] 23)).heap.size := by simp
  generalize w.alloc (.cells #[.pointer (some ⟨g, 0, none⟩)] 23) = w2 at *
  have hB1 : Below w2.heap.size w2 ((w2.alloc (.cells #[.slice a 0 c] 30)).alloc (.cells #[.int .i64 6] 3)) := ((Below.refl _ _).alloc (Nat.le_refl _) _).alloc (by simp) _
  have hcs : ((w2.alloc (.cells #[.slice a 0 c] 30)).alloc (.cells #[.int .i64 6] 3)).cell? ⟨w2.heap.size, 0, none⟩ = some (.slice a 0 c) := (cell_alloc (w2.alloc (.cells #[.slice a 0 c] 30)) _ w2.heap.size 0 (by simp)).trans (by simp)
  have hsz : ((w2.alloc (.cells #[.slice a 0 c] 30)).alloc (.cells #[.int .i64 6] 3)).heap.size = w2.heap.size + 2 := by simp
  have q0 := (hB1.cell (p := ⟨w.heap.size, 0, none⟩) hs0).trans p0
  have HB1 := Lib.hid (hB0.trans (hB1.mono hB0.size))
  have hw2 := hB0.size
  clear hB1 hB0 p0 HCH
  generalize (w2.alloc (.cells #[.slice a 0 c] 30)).alloc (.cells #[.int .i64 6] 3) = W1 at *
  rw [hz2] at hcs
  have hst := chunk_stopsE (9 - 1) 6 (w.heap.size + 1) (w.heap.size + 1 + 1) c a W1 (by omega) hcs
  refine (wpIn_wide (n := 9)).1 ?_
  refine wpIn_rangeFunc_ownG (α := Empty) rfl (by decide) (gf := 106) (lb := #[.pointer (some ⟨w.heap.size + 1, 0, none⟩), .pointer (some ⟨w.heap.size + 1 + 1, 0, none⟩)]) rfl trivial (enters_of Tryz.func106 (by kernel_rfl) rfl) hst (fun h k => h.trans k) (KpC.put (by omega) (by omega)) (Below.refl _ _) (fun x => x.elim)
    (fun pre W => Below W1.heap.size W1 W) (fun _ _ _ => False) (ownFrom_below (Nat.le_refl _) (Nat.le_refl _)) (fun _ _ _ _ _ hs _ _ => hs) (Below.refl _ _) (fun x => x.elim) ?assign ?body ?done ?stop
  case assign => intro l x; exact x.elim
  case body => intro l pre x; exact x.elim
  case stop =>
    rintro D c pre W _ _ h _
    exact h.elim
  case done =>
    rintro D xs W hD hS hBW hK
    have hDW : D < W.heap.size := (Array.getElem?_eq_some_iff.1 hK).1
    have u0 := (hBW.cell (p := ⟨w.heap.size, 0, none⟩) (by simp only; omega)).trans q0
    have hBT := HB1.out.trans (hBW.mono HB1.out.size)
    have HSW := Lib.hid (HS.out.below hBT)
    have HBT := Lib.hid hBT
    have HSY := Lib.hid (say_any HSW.out (Fr.mk 4 1 0 []) (.slice none 0 0) ⟨none, 0, rfl, by simp [BytesL.valB], by simp, by simp, by simp [BytesL.valB]⟩ ⟨⟨by decide, by decide⟩, ⟨by decide, by decide⟩, by decide, by decide⟩ (by decide) HLN.out)
    have hwW : w.heap.size < W.heap.size := by have := hBW.size; omega
    have h1s := HB1.out.size
    clear hBT
    go_wp2_with (first
      | (go_at_call 54; refine HSY.out.mono ?_; rintro e w5 ⟨rfl, v5, hC5, hM5⟩; have v0 := (World.cell?_of_block (a := ⟨w.heap.size, 0, none⟩) (hM5.block w.heap.size hwW (by rintro (e | e); omega; have := (ownB_lt HS.out.o _ e.symm).2; omega))).trans u0; have hK5 := (hM5.block D hDW (by rintro (e | e); omega; have := (ownB_lt HS.out.o _ e.symm).2; omega)).trans hK; have HC5 := Lib.hid hC5; have HM5 := Lib.hid hM5; clear hC5 hM5 u0)
      | (go_at_call 59; refine (pump_nil HC5.out (by rw [upd_other _ _ (by decide)]; exact H3.out)).mono ?_; rintro e w6 ⟨rfl, hC6, hM6⟩; have hK6 := (hM6.block D (Nat.lt_of_lt_of_le hDW HM5.out.size) (by omega)).trans hK5; have HC6 := Lib.hid hC6; have HM6 := Lib.hid hM6; clear hC6 hM6)
      | fail)
    have hBP := belowK_b (w := W1) (Nat.le_refl _) w6 D _ (.deferred none) hD hK6 rfl rfl
    have hs6 : W1.heap.size ≤ w6.heap.size := by have := hBW.size; have := HM5.out.size; have := HM6.out.size; omega
    have hCF : Cn base (w6.putObj D (.deferred none)) g (upd cs 5 v5) inn (out ++ (Fr.mk 4 1 0 []).bytes) :=
      ⟨HC6.out.r.of_block (hBP.block g (by omega)) hBP.size, ownsRow_putObj HC6.out.i _ hK6 rfl, ownsRow_putObj HC6.out.o _ hK6 rfl, HC6.out.ap, HC6.out.gb, Nat.le_trans HC6.out.bs hBP.size⟩
    refine ⟨by simp, .inl ⟨_, _, rfl, run_takeDeferred hK6, ?_⟩⟩
    refine ⟨.tuple #[], results_none rfl _ _ _, rfl, v5, hCF, ?_⟩
    have hM7 : Mod (fun k => k = g ∨ some k = (cs 5).ownBlock) w w6 := ((Mod.ofBelow HBT.out (fun k hk hge => by omega)).trans HM5.out).andThen HM6.out (fun k hk e => .inl e)
    exact hM7.below hBP (fun k hk hge => by omega)
end Go.Proofs.YtegngpingfjedaaGreatDoor.ConnS
