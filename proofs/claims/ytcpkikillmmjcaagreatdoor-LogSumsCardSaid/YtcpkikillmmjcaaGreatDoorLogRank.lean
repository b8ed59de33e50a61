/-
  The contract of log.Rank over this seat's translation.
  Conditions: a slice that reads as ints.
-/
import Derived.Test.YtcpkikillmmjcaaGreatDoorIterSorted
import Derived.Test.YtcpkikillmmjcaaGreatDoorArgs
import Derived.WalkSpells
import Derived.IntWalk
import Derived.Lib.Hide
namespace Go.Proofs.YtcpkikillmmjcaaGreatDoor.LogC
open Go.RowKit Go.Shelf IterI
set_option linter.unusedVariables false
set_option linter.unusedSimpArgs false

/-- What is wrong with a part of so many numbers; 0: nothing. -/
def rankE (n : Nat) (part : Int) : Int := if part < 1 ∨ 100 < part then 1 else if 1000 < n then 4 else if n = 0 then 5 else 0
/-- Where the number stands. -/
def rankI (n : Nat) (part : Int) : Nat := ((n * part + 99) / 100 - 1).toNat
def rankV (zs : List Int) (part : Int) : Int := (sortL zs).getD (rankI zs.length part) 0
theorem sortL_len (zs : List Int) : (sortL zs).length = zs.length := by unfold sortL; exact List.length_mergeSort zs
theorem rankI_lt {n : Nat} {part : Int} (h0 : 0 < n) (h1 : 1 ≤ part) (h2 : part ≤ 100) : rankI n part < n ∧ (rankI n part : Int) = (n * part + 99) / 100 - 1 := by
  unfold rankI
  have e1 : (n : Int) * 1 ≤ n * part := Int.mul_le_mul_of_nonneg_left h1 (by omega)
  have e2 : (n : Int) * part ≤ n * 100 := Int.mul_le_mul_of_nonneg_left h2 (by omega)
  omega
theorem hundred_any (p : Int) (w : World) : Calls Tryz.prog 28 #[.int .i64 p] w fun e w' => e = .returned (.bool (decide (1 ≤ p ∧ p ≤ 100))) ∧ w = w' := by
  have h : p < 1 ∨ (1 ≤ p ∧ p ≤ 100) ∨ (1 ≤ p ∧ 100 < p) := by omega
  rcases h with h1 | ⟨h1, h2⟩ | ⟨h1, h2⟩
  all_goals
    go_enter Tryz.func28, Tryz.ntmps28
    go_wp2
    go_ret
    exact ⟨by simp; try omega, rfl⟩
theorem values_any (a : Option Addr) (len cap : Nat) (w : World) :
    Calls Tryz.prog 30 #[.slice a len cap] w fun e w' => e = .returned (.func (.func 50) #[] #[.pointer (some ⟨w.heap.size, 0, none⟩)]) ∧ w.alloc (.cells #[.slice a len cap] 37) = w' :=
  ((callsIn_wide (n := 9)).1 (values_in Fence.wide 9 trivial rfl a len cap w)).mono fun e w' h => ⟨h.1, h.2.symm⟩
theorem map_get (l : List Int) (j : Nat) (h : j < l.length) : (l.map (Value.int .i64))[j]? = some (.int .i64 (l.getD j 0)) := by simp [List.getD, h]
theorem row_base {W : World} {base base' : Nat} {e : TypeId} {size : Nat} {v : Value} {k : Nat} {xs : List Value} (h : W.ownsRow base e size v k xs) (hb : base' ≤ base) : W.ownsRow base' e size v k xs := by
  refine ⟨h.1, ?_⟩
  rcases h.2 with hn | ⟨g, cap, cur, hv, hbg, rest⟩
  · exact .inl hn
  · exact .inr ⟨g, cap, cur, hv, Nat.le_trans hb hbg, rest⟩
theorem row_some {W : World} {base n c : Nat} {e : TypeId} {a : Option Addr} {xs : List Value} (h : W.ownsRow base e 1 (.slice a n c) n xs) (h0 : 0 < n) : ∃ g, a = some ⟨g, 0, none⟩ ∧ n ≤ c ∧ c ≤ 9223372036854775807 ∧ ∀ i, i < n → W.cell? ⟨g, i, none⟩ = xs[i]? := by
  have h' := h
  rcases h.2 with ⟨_, hn⟩ | ⟨g, cap, cur, hv, hb, hg, h1, h2, _⟩
  · omega
  · simp only [Value.slice.injEq, true_and] at hv
    obtain ⟨rfl, rfl⟩ := hv
    exact ⟨g, rfl, h1, by simpa [maxLen] using h2, fun i hi => World.ownsRow.cellAt h' i (by omega)⟩
theorem sorted_any (b off cap : Nat) (zs : List Int) (w : World) (hlen : zs.length ≤ 1000000) (hb : b < w.heap.size) (hcs : ∀ j, j < zs.length → w.cell? ⟨b, off + j, none⟩ = some (.int .i64 (zs.getD j 0))) :
    Calls Tryz.prog 29 #[.func (.func 50) #[] #[.pointer (some ⟨w.heap.size, 0, none⟩)]] (w.alloc (.cells #[.slice (some ⟨b, off, none⟩) zs.length cap] 37)) fun e W' => ∃ a c, e = .returned (.slice a zs.length c) ∧
      W'.ownsRow w.heap.size 3 1 (.slice a zs.length c) zs.length ((sortL zs).map (Value.int .i64)) ∧ Below w.heap.size w W' := by
  have hst : SeqStopsK Fence.wide (9 - 1 - 1 - 1) Tryz.prog 50 #[.pointer (some ⟨w.heap.size, 0, none⟩)] (fun x : Int => #[Value.int .i64 x]) (Below (w.alloc (.cells #[.slice (some ⟨b, off, none⟩) zs.length cap] 37)).heap.size) (fun ys => ys = zs) (fun pre => pre <+: zs) zs.length (w.alloc (.cells #[.slice (some ⟨b, off, none⟩) zs.length cap] 37)) :=
    values_stops Fence.wide _ trivial rfl (by omega) w.heap.size _ b off cap zs (by omega) _ (by simp) (Nat.le_refl _) (by simp; omega) (by simp) (fun j hj => by
      rw [((Below.refl w.heap.size w).alloc (Nat.le_refl _) _).cell (p := ⟨b, off + j, none⟩) hb, hcs j hj]; simp [List.getD])
  refine ((callsIn_wide (n := 9)).1 (sorted_in 50 #[.pointer (some ⟨w.heap.size, 0, none⟩)] (enters_of Tryz.func50 (by kernel_rfl) rfl) zs (by unfold maxLen; omega) (by omega) _ _ 9 (by omega) hst)).mono ?_
  rintro e W' ⟨v, rfl, hrow, hB⟩
  have hv : ∃ a c, v = .slice a zs.length c := by
    obtain ⟨_, ⟨rfl, h0⟩ | ⟨g, c, cur, rfl, _⟩⟩ := hrow
    · exact ⟨none, 0, by rw [h0]⟩
    · exact ⟨_, c, rfl⟩
  obtain ⟨a, c, rfl⟩ := hv
  exact ⟨a, c, rfl, row_base hrow (by simp), ((Below.refl _ w).alloc (Nat.le_refl _) _).trans (hB.mono (by simp))⟩
set_option maxRecDepth 100000 in
set_option maxHeartbeats 4000000 in
theorem rank_bad (v : Value) (zs : List Int) (part : Int) (w : World) (h : Args.RowAt w v (zs.map (Value.int .i64))) (hz : rankE zs.length part ≠ 0) :
    Calls Tryz.prog 14 #[v, .int .i64 part] w fun e w' => e = .returned (.tuple #[.int .i64 0, .iface 52 (.int .i64 (rankE zs.length part))]) ∧ Below w.heap.size w w' := by
  obtain ⟨a, cap, rfl, h1, h2, h3, h4⟩ := h
  simp only [List.length_map] at h1 h2 h4 ⊢
  generalize hn : zs.length = n at *
  have hc : (part < 1 ∨ 100 < part) ∨ ((1 ≤ part ∧ part ≤ 100) ∧ 1000 < n) ∨ ((1 ≤ part ∧ part ≤ 100) ∧ n = 0) := by
    unfold rankE at hz
    by_cases e1 : part < 1 ∨ 100 < part
    · exact .inl e1
    · rw [if_neg e1] at hz
      by_cases e2 : 1000 < n
      · exact .inr (.inl ⟨by omega, e2⟩)
      · rw [if_neg e2] at hz
        by_cases e3 : n = 0
        · exact .inr (.inr ⟨by omega, e3⟩)
        · rw [if_neg e3] at hz; exact absurd rfl hz
  clear hz h4
  have HH := Lib.hid (hundred_any part w)
  rcases hc with hc | ⟨hc, hn2⟩ | ⟨hc, rfl⟩
  · have hd : decide (1 ≤ part ∧ part ≤ 100) = false := by simp; omega
    have HE : Hid (rankE n part = 1) := by show _ = _; unfold rankE; rw [if_pos hc]
    rw [hd] at HH
    clear hd hc
    go_enter Tryz.func14, Tryz.ntmps14
    go_wp2_with (go_at_call 28; refine HH.out.mono ?_; rintro e w2 ⟨rfl, rfl⟩)
    go_ret2
    exact ⟨by rw [HE.out]; rfl, Below.refl _ _⟩
  · have hd : decide (1 ≤ part ∧ part ≤ 100) = true := by simp; omega
    have HE : Hid (rankE n part = 4) := by show _ = _; unfold rankE; rw [if_neg (by omega), if_pos hn2]
    rw [hd] at HH
    clear hd hc
    go_enter Tryz.func14, Tryz.ntmps14
    go_wp2_with (go_at_call 28; refine HH.out.mono ?_; rintro e w2 ⟨rfl, rfl⟩)
    go_ret2
    exact ⟨by rw [HE.out]; rfl, Below.refl _ _⟩
  · have hd : decide (1 ≤ part ∧ part ≤ 100) = true := by simp; omega
    have HE : Hid (rankE 0 part = 5) := by show _ = _; unfold rankE; rw [if_neg (by omega), if_neg (by omega), if_pos rfl]
    rw [hd] at HH
    clear hd hc
    go_enter Tryz.func14, Tryz.ntmps14
    go_wp2_with (go_at_call 28; refine HH.out.mono ?_; rintro e w2 ⟨rfl, rfl⟩)
    go_ret2
    exact ⟨by rw [HE.out]; rfl, Below.refl _ _⟩
set_option maxRecDepth 100000 in
set_option maxHeartbeats 4000000 in
theorem rank_ok (v : Value) (zs : List Int) (part : Int) (w : World) (h : Args.RowAt w v (zs.map (Value.int .i64))) (hz : rankE zs.length part = 0) :
    Calls Tryz.prog 14 #[v, .int .i64 part] w fun e w' => e = .returned (.tuple #[.int .i64 (rankV zs part), .nilIface]) ∧ Below w.heap.size w w' := by
  obtain ⟨a, cap, rfl, h1, h2, h3, h4⟩ := h
  simp only [List.length_map] at h1 h2 h4 ⊢
  have hc : 1 ≤ part ∧ part ≤ 100 ∧ 1 ≤ zs.length ∧ zs.length ≤ 1000 := by
    unfold rankE at hz
    split at hz
    · omega
    · split at hz
      · omega
      · split at hz <;> omega
  obtain ⟨c1, c2, c3, c4⟩ := hc
  obtain ⟨b, off, rfl, hb, _⟩ := h4 0 (by omega)
  have hcs : ∀ j, j < zs.length → w.cell? ⟨b, off + j, none⟩ = some (.int .i64 (zs.getD j 0)) := fun j hj => by
    obtain ⟨b2, o2, e, _, hc⟩ := h4 j hj
    simp only [Option.some.injEq, Addr.mk.injEq, and_true] at e
    obtain ⟨rfl, rfl⟩ := e
    rw [hc]; simp [List.getD, hj]
  have HSO := Lib.hid (sorted_any b off cap zs w (by omega) hb hcs)
  have hd : decide (1 ≤ part ∧ part ≤ 100) = true := by simp; omega
  have HH := Lib.hid (hundred_any part w)
  rw [hd] at HH
  obtain ⟨hi1, hi2⟩ := rankI_lt (n := zs.length) (by omega) c1 c2
  have hV : rankV zs part = (sortL zs).getD (rankI zs.length part) 0 := rfl
  have HV := Lib.hid hV
  have m1 : (zs.length : Int) * 1 ≤ zs.length * part := Int.mul_le_mul_of_nonneg_left c1 (by omega)
  have m2 : (zs.length : Int) * part ≤ zs.length * 100 := Int.mul_le_mul_of_nonneg_left c2 (by omega)
  have e1 : IntKind.i64.wrap ((zs.length : Int) * part) = zs.length * part := IntWalk.i64_in _ (by omega)
  have e2 : IntKind.i64.wrap ((zs.length : Int) * part + 99) = zs.length * part + 99 := IntWalk.i64_in _ (by omega)
  generalize hI : rankI zs.length part = I at *
  have e3 : IntKind.i64.wrap (((zs.length : Int) * part + 99).tdiv 100) = (I : Int) + 1 := by rw [Int.tdiv_eq_ediv_of_nonneg (by omega), IntWalk.i64_in _ (by omega)]; omega
  have e4 : IntKind.i64.wrap ((I : Int) + 1 - 1) = (I : Int) := by rw [IntWalk.i64_in _ (by omega)]; omega
  have e5 : ((zs.length : Int) * part + 99) / 100 = (I : Int) + 1 := by omega
  have d1 : (0 : Int) ≤ (I : Int) := by omega
  have d2 : (I : Int) < (zs.length : Int) := by omega
  clear hd h4 hcs hV hz hi2
  have hsl := sortL_len zs
  have HSL := Lib.hid hsl
  clear hsl
  go_enter Tryz.func14, Tryz.ntmps14
  go_wp2_with (first
    | (go_at_call 28; refine HH.out.mono ?_; rintro e w2 ⟨rfl, rfl⟩)
    | (go_at_call 30; refine (values_any _ _ _ _).mono ?_; rintro e w2 ⟨rfl, rfl⟩)
    | (go_at_call 29; refine HSO.out.mono ?_; rintro e w3 ⟨a3, c3', rfl, hrow, hB3⟩; obtain ⟨g3, rfl, hr1, hr2, hr3⟩ := row_some hrow (by omega); have hx3 := (hr3 I hi1).trans (map_get (sortL zs) I (by rw [HSL.out]; exact hi1)); clear hr3 hrow))
  go_ret2
  exact ⟨by rw [HV.out]; rfl, hB3⟩
end Go.Proofs.YtcpkikillmmjcaaGreatDoor.LogC
