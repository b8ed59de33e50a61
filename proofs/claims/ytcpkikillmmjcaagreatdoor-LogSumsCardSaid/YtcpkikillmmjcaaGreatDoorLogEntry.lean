/-
  The reference's Entry over this seat's translation, exactly.
  Conditions: how long the entry's texts are.
-/
import Derived.Test.YtcpkikillmmjcaaGreatDoorLogCut
namespace Go.Proofs.YtcpkikillmmjcaaGreatDoor.LogC
open Go.RowKit Go.Shelf LogP LineC RowsK RowsM Args ModL
set_option linter.unusedVariables false
set_option linter.unusedSimpArgs false

def three (en : En) : List Int := [en.time, en.bytes, en.took]
theorem numB_bad {x : Int} (h : ¬ (0 ≤ x ∧ x ≤ 1000000)) : numB x = false := by unfold numB; exact decide_eq_false h
theorem three_bad {en : En} {k : Nat} (hk : k < 3) (h : numB ((three en).getD k 0) = false) : checkE en = 1 := by
  have hr : rangeE en = false := by
    unfold rangeE
    rcases k with _ | _ | _ | k
    · have : numB en.time = false := h
      rw [this]; rfl
    · have : numB en.bytes = false := h
      rw [this, Bool.and_false]; rfl
    · have : numB en.took = false := h
      rw [this, Bool.and_false]; rfl
    · omega
  unfold checkE
  rw [hr]; rfl
theorem three_good {en : En} (h : ∀ j, j < 3 → numB ((three en).getD j 0) = true) : checkE en = if decide (100 ≤ en.code) && decide (en.code ≤ 599) then (if tokL en.method.data.toList && wordL en.path.data.toList then 0 else 2) else 1 := by
  have h0 : numB en.time = true := h 0 (by omega)
  have h1 : numB en.bytes = true := h 1 (by omega)
  have h2 : numB en.took = true := h 2 (by omega)
  unfold checkE rangeE
  rw [h0, h1, h2, Bool.decide_and]; rfl
set_option maxRecDepth 100000 in
set_option maxHeartbeats 8000000 in
theorem rentry_any (en : En) (hm : en.method.size ≤ maxLen) (hp : en.path.size ≤ maxLen) (w : World) : Calls Tryz.prog 6 #[enV en] w fun e w' => e = .returned (.int .i64 (checkE en)) ∧ Below w.heap.size w w' := by
  have HT := Lib.hid (rtoken_any en.method hm)
  have HW := Lib.hid (rword_any en.path hp)
  clear hm hp
  have HBAD : Hid (∀ k, k < 3 → numB ((three en).getD k 0) = false → checkE en = 1) := fun k hk h => three_bad hk h
  have HGOOD : Hid ((∀ j, j < 3 → numB ((three en).getD j 0) = true) → checkE en = if decide (100 ≤ en.code) && decide (en.code ≤ 599) then (if tokL en.method.data.toList && wordL en.path.data.toList then 0 else 2) else 1) := three_good
  obtain ⟨R, hR⟩ : ∃ R, checkE en = R := ⟨_, rfl⟩
  rw [hR] at HBAD HGOOD ⊢
  clear hR
  unfold enV
  go_enter Tryz.func6, Tryz.ntmps6
  go_wp2_with fail
  have hB0 : Below w.heap.size w ((w.alloc (.cells #[.int .i64 en.time, .int .i64 en.code, .int .i64 en.bytes, .int .i64 en.took, .string en.method, .string en.path] 23)).alloc (.cells #[.int .i64 en.time, .int .i64 en.bytes, .int .i64 en.took] 3)) := ((Below.refl _ _).alloc (Nat.le_refl _) _).alloc (by simp) _
  have p1 : ((w.alloc (.cells #[.int .i64 en.time, .int .i64 en.code, .int .i64 en.bytes, .int .i64 en.took, .string en.method, .string en.path] 23)).alloc (.cells #[.int .i64 en.time, .int .i64 en.bytes, .int .i64 en.took] 3)).cell? ⟨w.heap.size, 1, none⟩ = some (.int .i64 en.code) := by
    rw [World.cell?_alloc_lt _ _ ⟨w.heap.size, 1, none⟩ (by simp)]; simp
  have p4 : ((w.alloc (.cells #[.int .i64 en.time, .int .i64 en.code, .int .i64 en.bytes, .int .i64 en.took, .string en.method, .string en.path] 23)).alloc (.cells #[.int .i64 en.time, .int .i64 en.bytes, .int .i64 en.took] 3)).cell? ⟨w.heap.size, 4, none⟩ = some (.string en.method) := by
    rw [World.cell?_alloc_lt _ _ ⟨w.heap.size, 4, none⟩ (by simp)]; simp
  have p5 : ((w.alloc (.cells #[.int .i64 en.time, .int .i64 en.code, .int .i64 en.bytes, .int .i64 en.took, .string en.method, .string en.path] 23)).alloc (.cells #[.int .i64 en.time, .int .i64 en.bytes, .int .i64 en.took] 3)).cell? ⟨w.heap.size, 5, none⟩ = some (.string en.path) := by
    rw [World.cell?_alloc_lt _ _ ⟨w.heap.size, 5, none⟩ (by simp)]; simp
  have hnc : ∀ k, k < 3 → ((w.alloc (.cells #[.int .i64 en.time, .int .i64 en.code, .int .i64 en.bytes, .int .i64 en.took, .string en.method, .string en.path] 23)).alloc (.cells #[.int .i64 en.time, .int .i64 en.bytes, .int .i64 en.took] 3)).cell? ⟨w.heap.size + 1, k, none⟩ = some (.int .i64 ((three en).getD k 0)) := fun k hk => by
    have h : w.heap.size + 1 = (w.alloc (.cells #[.int .i64 en.time, .int .i64 en.code, .int .i64 en.bytes, .int .i64 en.took, .string en.method, .string en.path] 23)).heap.size := by simp
    rw [h]
    rcases k with _ | _ | _ | k
    · simp [three]
    · simp [three]
    · simp [three]
    · omega
  have HB0 := Lib.hid hB0
  have HNC := Lib.hid hnc
  clear hB0 hnc
  generalize ((w.alloc (.cells #[.int .i64 en.time, .int .i64 en.code, .int .i64 en.bytes, .int .i64 en.took, .string en.method, .string en.path] 23)).alloc (.cells #[.int .i64 en.time, .int .i64 en.bytes, .int .i64 en.took] 3)) = W1 at *
  go_loop [4] (fun i => ∃ k : Nat, k ≤ 3 ∧ i = .int .i64 k ∧ Hid (∀ j, j < k → numB ((three en).getD j 0) = true)) (fun i => 3 - (intOf i).toNat)
  case atStart => exact ⟨0, by omega, rfl, fun j hj => absurd hj (by omega)⟩
  case round =>
    obtain ⟨k, hk, rfl, HA⟩ := hrel
    by_cases hlt : k < 3
    · have hlt2 : (k : Int) < 3 := by omega
      have q := HNC.out k hlt
      have HB := Lib.hid (HBAD.out k hlt)
      obtain ⟨x, hx⟩ : ∃ x, (three en).getD k 0 = x := ⟨_, rfl⟩
      have HX := Lib.hid hx
      rw [hx] at q HB
      clear hx
      by_cases c1 : x < 0
      · have hrr : R = 1 := HB.out (numB_bad (by omega))
        subst hrr
        clear HB HBAD HGOOD
        go_wp2
        go_ret
        exact ⟨rfl, HB0.out⟩
      · have g1 : 0 ≤ x := by omega
        by_cases c2 : x ≤ 1000000
        · have HG : Hid (numB x = true) := by show numB x = true; unfold numB; exact decide_eq_true ⟨g1, c2⟩
          clear c1
          go_wp2
          go_round
          case rel =>
            refine ⟨k + 1, by omega, by go_num, fun j hj => ?_⟩
            by_cases h : j = k
            · subst h; rw [HX.out]; exact HG.out
            · exact HA.out j (by omega)
          case measure => simp [intOf]; omega
        · have g2 : 1000000 < x := by omega
          have hrr : R = 1 := HB.out (numB_bad (by omega))
          subst hrr
          clear HB HBAD HGOOD c1 c2
          go_wp2
          go_ret
          exact ⟨rfl, HB0.out⟩
    · obtain rfl : k = 3 := by omega
      have hr := HGOOD.out HA.out
      clear HGOOD HBAD HA HNC
      obtain ⟨t, ht⟩ : ∃ t, tokL en.method.data.toList = t := ⟨_, rfl⟩
      obtain ⟨y, hy⟩ : ∃ y, wordL en.path.data.toList = y := ⟨_, rfl⟩
      rw [ht, hy] at hr
      rw [ht] at HT
      rw [hy] at HW
      clear ht hy
      have HR := Lib.hid hr
      clear hr
      by_cases c1 : en.code < 100
      · have hrr : R = 1 := by rw [HR.out, decide_eq_false (by omega)]; rfl
        subst hrr
        clear HR
        go_wp2
        go_ret
        exact ⟨rfl, HB0.out⟩
      · have g1 : 100 ≤ en.code := by omega
        clear c1
        by_cases c2 : en.code ≤ 599
        · have hrr : R = if t && y then 0 else 2 := by rw [HR.out, decide_eq_true g1, decide_eq_true c2]; rfl
          subst hrr
          clear HR
          rcases t with _ | _
          · go_wp2_with (first | (go_at_call 17; (with_reducible refine (HT.out _).mono ?_); rintro e w1 ⟨rfl, rfl⟩) | (go_at_call 18; (with_reducible refine (HW.out _).mono ?_); rintro e w1 ⟨rfl, rfl⟩) | fail)
            go_ret
            exact ⟨rfl, HB0.out⟩
          · rcases y with _ | _
            · go_wp2_with (first | (go_at_call 17; (with_reducible refine (HT.out _).mono ?_); rintro e w1 ⟨rfl, rfl⟩) | (go_at_call 18; (with_reducible refine (HW.out _).mono ?_); rintro e w1 ⟨rfl, rfl⟩) | fail)
              go_ret
              exact ⟨rfl, HB0.out⟩
            · go_wp2_with (first | (go_at_call 17; (with_reducible refine (HT.out _).mono ?_); rintro e w1 ⟨rfl, rfl⟩) | (go_at_call 18; (with_reducible refine (HW.out _).mono ?_); rintro e w1 ⟨rfl, rfl⟩) | fail)
              go_ret
              exact ⟨rfl, HB0.out⟩
        · have g2 : 599 < en.code := by omega
          have hrr : R = 1 := by rw [HR.out, decide_eq_false c2, Bool.and_false]; rfl
          subst hrr
          clear HR c2
          go_wp2
          go_ret
          exact ⟨rfl, HB0.out⟩
end Go.Proofs.YtcpkikillmmjcaaGreatDoor.LogC
