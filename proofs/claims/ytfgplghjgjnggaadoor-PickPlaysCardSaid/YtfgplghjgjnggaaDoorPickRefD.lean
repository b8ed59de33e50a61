/-
  The reference's row of those who may want: Sent.
  Conditions: where its blocks lie.
-/
import Derived.Test.YtfgplghjgjnggaaDoorPickRefC
namespace Go.Proofs.YtfgplghjgjnggaaDoor.PickR
open Go.RowKit MapsL ModL RowsK PickC
set_option linter.unusedSimpArgs false
set_option linter.unusedVariables false

theorem rsent_none {w : World} {q : Nat} {v : Value} {l : List Ent} (h : RefP w q v l) (id k : Int) (hid : -9223372036854775808 ≤ id ∧ id ≤ 9223372036854775807) (hno : ∀ x ∈ l, x.id ≠ id) :
    Calls Tryd.prog 14 #[.pointer (some ⟨q, 0, none⟩), .int .i64 id, .int .i64 k] w fun e w' => e = .returned (.int .i64 5) ∧ w = w' := by
  have HA := Lib.hid (at_none h id hid hno)
  clear h
  go_enter Tryd.func14, Tryd.ntmps14
  go_wp2_with (go_at_call 27; (with_reducible refine HA.out.mono ?_); rintro e w1 ⟨rfl, rfl⟩)
  go_ret
  exact ⟨rfl, rfl⟩
theorem rsent_bad {w : World} {q : Nat} {v : Value} {l : List Ent} (h : RefP w q v l) (id k : Int) (hid : -9223372036854775808 ≤ id ∧ id ≤ 9223372036854775807) (n : Nat) (hU : ∀ m y, l[m]? = some y → y.id = id → m = n) (x : Ent) (hn : l[n]? = some x) (hx : x.id = id) (hk : k < 0 ∨ 1000000 < k) :
    Calls Tryd.prog 14 #[.pointer (some ⟨q, 0, none⟩), .int .i64 id, .int .i64 k] w fun e w' => e = .returned (.int .i64 1) ∧ w = w' := by
  have HA := Lib.hid (at_one h id hid n hU x hn hx)
  have hn00 : ¬ (n : Int) < 0 := by omega
  clear h hU hn hx
  by_cases h0 : k < 0
  · go_enter Tryd.func14, Tryd.ntmps14
    go_wp2_with (go_at_call 27; (with_reducible refine HA.out.mono ?_); rintro e w1 ⟨rfl, rfl⟩)
    go_ret
    exact ⟨rfl, rfl⟩
  · have h1 : 1000000 < k := by omega
    go_enter Tryd.func14, Tryd.ntmps14
    go_wp2_with (go_at_call 27; (with_reducible refine HA.out.mono ?_); rintro e w1 ⟨rfl, rfl⟩)
    go_ret
    exact ⟨rfl, rfl⟩
set_option maxRecDepth 100000 in
set_option maxHeartbeats 4000000 in
theorem rsent_some {w : World} {q : Nat} {v : Value} {l : List Ent} (h : RefP w q v l) (id k : Int) (hid : -9223372036854775808 ≤ id ∧ id ≤ 9223372036854775807) (n : Nat) (hU : ∀ m y, l[m]? = some y → y.id = id → m = n) (x : Ent) (hn : l[n]? = some x) (hx : x.id = id) (hk : 0 ≤ k ∧ k ≤ 1000000) (hw : 1 ≤ x.wt ∧ x.wt ≤ 256) (hs : 0 ≤ x.sc ∧ x.sc ≤ 4611686018427387904) :
    Calls Tryd.prog 14 #[.pointer (some ⟨q, 0, none⟩), .int .i64 id, .int .i64 k] w fun e w' => e = .returned (.int .i64 0) ∧ RefP w' q v (l.set n (sentE k x)) ∧ Mod (fun b => v.ownBlock = some b) w w' := by
  have HA := Lib.hid (at_one h id hid n hU x hn hx)
  have HR := Lib.hid h
  have hc0 := h.c0
  obtain ⟨g, cap, rfl, hg, hg2, hnl, hent⟩ := h.entry hn
  obtain ⟨z0, z1, z2, z3⟩ := hent n x hn
  have hf2 := h.frozen (n * 4 + 2)
  obtain ⟨L, hL⟩ : ∃ L, l.length = L := ⟨_, rfl⟩
  rw [hL] at hnl hc0
  have HL := Lib.hid hL
  have hnL : (n : Int) < (L : Int) := by omega
  have hn0 : (0 : Int) ≤ (n : Int) := by omega
  have hn00 : ¬ (n : Int) < 0 := by omega
  have HN := Lib.hid hn
  obtain ⟨wt, hwt⟩ : ∃ z, x.wt = z := ⟨_, rfl⟩
  obtain ⟨sc, hsc⟩ : ∃ z, x.sc = z := ⟨_, rfl⟩
  rw [hwt] at z1 hw
  rw [hsc] at z2 hs
  obtain ⟨k1, k2⟩ := hk
  obtain ⟨w1, w2⟩ := hw
  obtain ⟨s1, s2⟩ := hs
  obtain ⟨D, hD⟩ : ∃ D, k * 65536 / wt = D := ⟨_, rfl⟩
  have hD0 : 0 ≤ D := by rw [← hD]; exact Int.ediv_nonneg (by omega) (by omega)
  have hD1 : D ≤ 65536000000 := by
    rw [← hD]
    have := Int.ediv_le_self (a := k * 65536) wt (by omega)
    omega
  have hq : (k * 65536).tdiv wt = D := by rw [Int.tdiv_eq_ediv_of_nonneg (by omega), hD]
  have HSE : Hid (sentE k x = { x with sc := min 4611686018427387904 (sc + D) }) := (by show _ = _; rw [sentE, sentSc, hwt, hsc, hD])
  have hw0 : ¬ wt = 0 := by omega
  clear h hL hU hn hx hent hwt hsc hD
  by_cases hm : 4611686018427387904 - sc < D
  · have hwr : IntKind.i64.wrap (sc + (4611686018427387904 - sc)) = 4611686018427387904 := by rw [IntKind.wrap_i64]; omega
    go_enter Tryd.func14, Tryd.ntmps14
    go_upto_region 10 with (go_at_call 27; (with_reducible refine HA.out.mono ?_); rintro e w1 ⟨rfl, rfl⟩)
    go_still_tail 17, (by kernel_rfl)
    change wpList _ _ _ _ _ w.drew
    have HR3 : Hid (RefP w.drew q (.slice (some ⟨g, 0, none⟩) l.length cap) l) := HR.out.heap rfl
    have hx3 : w.drew.cell? ⟨g, n * 4 + 2, none⟩ = some (.int .i64 sc) := z2
    have hf3 : w.drew.frozen? ⟨g, n * 4 + 2, none⟩ = false := hf2
    have HMd : Hid (Mod (fun b => some g = some b) w w.drew) := (Mod.refl (fun b => some g = some b) w).drew
    generalize w.drew = w3 at *
    go_wp2
    go_ret
    refine ⟨rfl, ?_, HMd.out.setCell (fun _ => rfl) _⟩
    have h := HR3.out.store n 2 (by rw [HL.out]; exact hnl) (by decide) (.int .i64 (4611686018427387904)) (sentE k x) (by rw [(List.getElem?_eq_some_iff.1 HN.out).2, HSE.out, show min 4611686018427387904 (sc + D) = 4611686018427387904 by omega]; rfl)
    exact h
  · have hwr : IntKind.i64.wrap (sc + D) = sc + D := by rw [IntKind.wrap_i64]; omega
    go_enter Tryd.func14, Tryd.ntmps14
    go_upto_region 10 with (go_at_call 27; (with_reducible refine HA.out.mono ?_); rintro e w1 ⟨rfl, rfl⟩)
    go_still_tail 17, (by kernel_rfl)
    change wpList _ _ _ _ _ w.drew
    have HR3 : Hid (RefP w.drew q (.slice (some ⟨g, 0, none⟩) l.length cap) l) := HR.out.heap rfl
    have hx3 : w.drew.cell? ⟨g, n * 4 + 2, none⟩ = some (.int .i64 sc) := z2
    have hf3 : w.drew.frozen? ⟨g, n * 4 + 2, none⟩ = false := hf2
    have HMd : Hid (Mod (fun b => some g = some b) w w.drew) := (Mod.refl (fun b => some g = some b) w).drew
    generalize w.drew = w3 at *
    go_wp2
    go_ret
    refine ⟨rfl, ?_, HMd.out.setCell (fun _ => rfl) _⟩
    have h := HR3.out.store n 2 (by rw [HL.out]; exact hnl) (by decide) (.int .i64 (sc + D)) (sentE k x) (by rw [(List.getElem?_eq_some_iff.1 HN.out).2, HSE.out, show min 4611686018427387904 (sc + D) = sc + D by omega]; rfl)
    exact h
end Go.Proofs.YtfgplghjgjnggaaDoor.PickR
