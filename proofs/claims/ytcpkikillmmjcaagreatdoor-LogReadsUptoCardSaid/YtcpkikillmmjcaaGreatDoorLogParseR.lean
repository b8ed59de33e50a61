/-
  The reference's ParseEntry over this seat's translation, exactly.
  Conditions: the text's length.
-/
import Derived.Test.YtcpkikillmmjcaaGreatDoorLogPrintR
import Derived.Test.YtcpkikillmmjcaaGreatDoorLogR
namespace Go.Proofs.YtcpkikillmmjcaaGreatDoor.LogC
open Go.RowKit Go.Shelf LogP LineC RowsK RowsM Args ModL
set_option linter.unusedVariables false
set_option linter.unusedSimpArgs false

/-- What the reference's reading hands back. -/
def refV (o : Option En) : Value := match o with
  | some en => .tuple #[enV en, .bool true]
  | none => .tuple #[enV zeroEn, .bool false]
set_option maxRecDepth 100000 in
set_option maxHeartbeats 8000000 in
theorem rparse_any (s : ByteArray) (hs : s.size < 4294967281) (w : World) : Calls Tryz.prog 10 #[.string s] w fun e w' => e = .returned (refV (refParse s)) ∧ Below w.heap.size w w' := by
  have HS : Hid (∀ x ∈ wordsOf s, x.size ≤ 4294967280) := fun x hx => by have := piece_le s x hx; omega
  have HCUT := Lib.hid (fun W => cut_any s hs W)
  clear hs
  obtain ⟨n, hn⟩ : ∃ n, (wordsOf s).length = n := ⟨_, rfl⟩
  have HN := Lib.hid hn
  by_cases h6 : n = 6
  · obtain ⟨p0, p1, p2, p3, m, p, hp⟩ : ∃ p0 p1 p2 p3 m p, wordsOf s = [p0, p1, p2, p3, m, p] := by
      have hl : (wordsOf s).length = 6 := hn.trans h6
      match wordsOf s, hl with
      | [p0, p1, p2, p3, m, p], _ => exact ⟨p0, p1, p2, p3, m, p, rfl⟩
    subst h6
    rw [hp] at HS
    have hcut : ∀ W, Calls Tryz.prog 23 #[.string s, .int .u8 32] W fun e w' => ∃ v, e = .returned v ∧ RowsK.Own encT w' W.heap.size 9 v [p0, p1, p2, p3, m, p] ∧ Below W.heap.size W w' := fun W => by rw [← hp]; exact HCUT.out W
    have HC := Lib.hid hcut
    have HN0 := Lib.hid (rnumber_any p0 (by have := HS.out p0 (by simp); omega))
    have HN1 := Lib.hid (rnumber_any p1 (by have := HS.out p1 (by simp); omega))
    have HN2 := Lib.hid (rnumber_any p2 (by have := HS.out p2 (by simp); omega))
    have HN3 := Lib.hid (rnumber_any p3 (by have := HS.out p3 (by simp); omega))
    have hr : refParse s = if checkE ⟨numD p0.data.toList, numD p1.data.toList, numD p2.data.toList, numD p3.data.toList, m, p⟩ = 0 then some ⟨numD p0.data.toList, numD p1.data.toList, numD p2.data.toList, numD p3.data.toList, m, p⟩ else none := by
      unfold refParse; rw [hp]; rfl
    obtain ⟨R, hR⟩ : ∃ R, refV (refParse s) = R := ⟨_, rfl⟩
    rw [hR]
    rw [hr] at hR
    have HRR := Lib.hid hR
    clear hR hr hp hn hcut HCUT HN
    generalize numD p0.data.toList = a0 at *
    generalize numD p1.data.toList = a1 at *
    generalize numD p2.data.toList = a2 at *
    generalize numD p3.data.toList = a3 at *
    have HE := Lib.hid (rentry_any ⟨a0, a1, a2, a3, m, p⟩ (by have := HS.out m (by simp); unfold maxLen; simp only; omega) (by have := HS.out p (by simp); unfold maxLen; simp only; omega))
    unfold enV at HE
    simp only at HE
    generalize checkE ⟨a0, a1, a2, a3, m, p⟩ = ck at *
    go_enter Tryz.func10, Tryz.ntmps10
    go_wp2_with fail
    have hB0 : Below w.heap.size w (w.alloc (.cells #[.int .i64 0, .int .i64 0, .int .i64 0, .int .i64 0, .string ⟨#[]⟩, .string ⟨#[]⟩] 23)) := (Below.refl _ _).alloc (Nat.le_refl _) _
    refine (HC.out _).mono ?_
    rintro e w1 ⟨v, rfl, hO, hB1⟩
    have r0 : w1.cell? ⟨w.heap.size, 0, none⟩ = some (.int .i64 0) := (hB1.cell (p := ⟨w.heap.size, 0, none⟩) (by simp)).trans (by simp)
    have f0 : w1.frozen? ⟨w.heap.size, 0, none⟩ = false := (hB1.frozen (p := ⟨w.heap.size, 0, none⟩) (by simp)).trans (by simp)
    have r1 : w1.cell? ⟨w.heap.size, 1, none⟩ = some (.int .i64 0) := (hB1.cell (p := ⟨w.heap.size, 1, none⟩) (by simp)).trans (by simp)
    have f1 : w1.frozen? ⟨w.heap.size, 1, none⟩ = false := (hB1.frozen (p := ⟨w.heap.size, 1, none⟩) (by simp)).trans (by simp)
    have r2 : w1.cell? ⟨w.heap.size, 2, none⟩ = some (.int .i64 0) := (hB1.cell (p := ⟨w.heap.size, 2, none⟩) (by simp)).trans (by simp)
    have f2 : w1.frozen? ⟨w.heap.size, 2, none⟩ = false := (hB1.frozen (p := ⟨w.heap.size, 2, none⟩) (by simp)).trans (by simp)
    have r3 : w1.cell? ⟨w.heap.size, 3, none⟩ = some (.int .i64 0) := (hB1.cell (p := ⟨w.heap.size, 3, none⟩) (by simp)).trans (by simp)
    have f3 : w1.frozen? ⟨w.heap.size, 3, none⟩ = false := (hB1.frozen (p := ⟨w.heap.size, 3, none⟩) (by simp)).trans (by simp)
    have r4 : w1.cell? ⟨w.heap.size, 4, none⟩ = some (.string ⟨#[]⟩) := (hB1.cell (p := ⟨w.heap.size, 4, none⟩) (by simp)).trans (by simp)
    have f4 : w1.frozen? ⟨w.heap.size, 4, none⟩ = false := (hB1.frozen (p := ⟨w.heap.size, 4, none⟩) (by simp)).trans (by simp)
    have r5 : w1.cell? ⟨w.heap.size, 5, none⟩ = some (.string ⟨#[]⟩) := (hB1.cell (p := ⟨w.heap.size, 5, none⟩) (by simp)).trans (by simp)
    have f5 : w1.frozen? ⟨w.heap.size, 5, none⟩ = false := (hB1.frozen (p := ⟨w.heap.size, 5, none⟩) (by simp)).trans (by simp)
    obtain ⟨b4, c4, rfl, hc4, hc5, hbb, hb4, hel4⟩ := hO.slice1 6 rfl (by decide)
    have hbb2 : w.heap.size < b4 := by have h := hbb; simp at h; omega
    have hx1 : w.heap.size ≠ b4 := by omega
    have hx2 : w.heap.size ≠ w1.heap.size := by omega
    have hx3 : w.heap.size < w1.heap.size := by omega
    have hx4 : b4 ≠ w1.heap.size := by omega
    have hx5 : w1.heap.size ≠ b4 := by omega
    have hx6 : w1.heap.size ≠ w.heap.size := by omega
    have q0 : w1.cell? ⟨b4, 0, none⟩ = some (.string p0) := by have h := hel4 0 (by simp) 0 (by decide); simpa [encT] using h
    have q1 : w1.cell? ⟨b4, 1, none⟩ = some (.string p1) := by have h := hel4 1 (by simp) 0 (by decide); simpa [encT] using h
    have q2 : w1.cell? ⟨b4, 2, none⟩ = some (.string p2) := by have h := hel4 2 (by simp) 0 (by decide); simpa [encT] using h
    have q3 : w1.cell? ⟨b4, 3, none⟩ = some (.string p3) := by have h := hel4 3 (by simp) 0 (by decide); simpa [encT] using h
    have q4 : w1.cell? ⟨b4, 4, none⟩ = some (.string m) := by have h := hel4 4 (by simp) 0 (by decide); simpa [encT] using h
    have q5 : w1.cell? ⟨b4, 5, none⟩ = some (.string p) := by have h := hel4 5 (by simp) 0 (by decide); simpa [encT] using h
    have HB1 := Lib.hid (hB0.trans (hB1.mono hB0.size))
    clear hB1 hB0 hel4 hbb hO HS
    by_cases hck : ck = 0
    · subst hck
      go_wp2_with (first
      | (go_at_call 24; (with_reducible refine (HN0.out _).mono ?_); rintro e w2 ⟨rfl, rfl⟩)
      | (go_at_call 24; (with_reducible refine (HN1.out _).mono ?_); rintro e w2 ⟨rfl, rfl⟩)
      | (go_at_call 24; (with_reducible refine (HN2.out _).mono ?_); rintro e w2 ⟨rfl, rfl⟩)
      | (go_at_call 24; (with_reducible refine (HN3.out _).mono ?_); rintro e w2 ⟨rfl, rfl⟩)
      | (go_at_call 6; refine (HE.out _).mono ?_; rintro e w5 ⟨rfl, hB5⟩; have hBx : Below w1.heap.size w1 (w1.alloc (.cells #[.int .i64 a0, .int .i64 a1, .int .i64 a2, .int .i64 a3, .string m, .string p] 23)) := (Below.refl _ _).alloc (Nat.le_refl _) _; have hB6 := hBx.trans (hB5.mono hBx.size); have t0 : w5.cell? ⟨w.heap.size, 0, none⟩ = some (.int .i64 0) := (hB6.cell (p := ⟨w.heap.size, 0, none⟩) hx3).trans r0; have k0 : w5.frozen? ⟨w.heap.size, 0, none⟩ = false := (hB6.frozen (p := ⟨w.heap.size, 0, none⟩) hx3).trans f0; have e0 : w5.cell? ⟨w1.heap.size, 0, none⟩ = some (.int .i64 a0) := (hB5.cell (p := ⟨w1.heap.size, 0, none⟩) (by simp)).trans (by simp); have t1 : w5.cell? ⟨w.heap.size, 1, none⟩ = some (.int .i64 0) := (hB6.cell (p := ⟨w.heap.size, 1, none⟩) hx3).trans r1; have k1 : w5.frozen? ⟨w.heap.size, 1, none⟩ = false := (hB6.frozen (p := ⟨w.heap.size, 1, none⟩) hx3).trans f1; have e1 : w5.cell? ⟨w1.heap.size, 1, none⟩ = some (.int .i64 a1) := (hB5.cell (p := ⟨w1.heap.size, 1, none⟩) (by simp)).trans (by simp); have t2 : w5.cell? ⟨w.heap.size, 2, none⟩ = some (.int .i64 0) := (hB6.cell (p := ⟨w.heap.size, 2, none⟩) hx3).trans r2; have k2 : w5.frozen? ⟨w.heap.size, 2, none⟩ = false := (hB6.frozen (p := ⟨w.heap.size, 2, none⟩) hx3).trans f2; have e2 : w5.cell? ⟨w1.heap.size, 2, none⟩ = some (.int .i64 a2) := (hB5.cell (p := ⟨w1.heap.size, 2, none⟩) (by simp)).trans (by simp); have t3 : w5.cell? ⟨w.heap.size, 3, none⟩ = some (.int .i64 0) := (hB6.cell (p := ⟨w.heap.size, 3, none⟩) hx3).trans r3; have k3 : w5.frozen? ⟨w.heap.size, 3, none⟩ = false := (hB6.frozen (p := ⟨w.heap.size, 3, none⟩) hx3).trans f3; have e3 : w5.cell? ⟨w1.heap.size, 3, none⟩ = some (.int .i64 a3) := (hB5.cell (p := ⟨w1.heap.size, 3, none⟩) (by simp)).trans (by simp); have t4 : w5.cell? ⟨w.heap.size, 4, none⟩ = some (.string ⟨#[]⟩) := (hB6.cell (p := ⟨w.heap.size, 4, none⟩) hx3).trans r4; have k4 : w5.frozen? ⟨w.heap.size, 4, none⟩ = false := (hB6.frozen (p := ⟨w.heap.size, 4, none⟩) hx3).trans f4; have e4 : w5.cell? ⟨w1.heap.size, 4, none⟩ = some (.string m) := (hB5.cell (p := ⟨w1.heap.size, 4, none⟩) (by simp)).trans (by simp); have t5 : w5.cell? ⟨w.heap.size, 5, none⟩ = some (.string ⟨#[]⟩) := (hB6.cell (p := ⟨w.heap.size, 5, none⟩) hx3).trans r5; have k5 : w5.frozen? ⟨w.heap.size, 5, none⟩ = false := (hB6.frozen (p := ⟨w.heap.size, 5, none⟩) hx3).trans f5; have e5 : w5.cell? ⟨w1.heap.size, 5, none⟩ = some (.string p) := (hB5.cell (p := ⟨w1.heap.size, 5, none⟩) (by simp)).trans (by simp); have HB6 := Lib.hid (HB1.out.trans (hB6.mono HB1.out.size)); clear hBx hB6 r0 r1 r2 r3 r4 r5 f0 f1 f2 f3 f4 f5 q0 q1 q2 q3 q4 q5; have HB5 := Lib.hid hB5; clear hB5)
      | fail)
      refine bodyPost_ret (v := .tuple #[.agg #[.int .i64 a0, .int .i64 a1, .int .i64 a2, .int .i64 a3, .string m, .string p], .bool true]) (by simp [results, Tryz.results10, go_sem, t0, t1, t2, t3, t4, t5]) rfl ⟨by rw [← HRR.out, if_pos trivial]; rfl, ?_⟩
      exact (((((HB6.out.setCell (Nat.le_refl _) _).setCell (Nat.le_refl _) _).setCell (Nat.le_refl _) _).setCell (Nat.le_refl _) _).setCell (Nat.le_refl _) _).setCell (Nat.le_refl _) _
    · have hck2 : ((ck : Int) != 0) = true := bne_iff_ne.2 hck
      have HCK := Lib.hid hck
      clear hck
      go_wp2_with (first
      | (go_at_call 24; (with_reducible refine (HN0.out _).mono ?_); rintro e w2 ⟨rfl, rfl⟩)
      | (go_at_call 24; (with_reducible refine (HN1.out _).mono ?_); rintro e w2 ⟨rfl, rfl⟩)
      | (go_at_call 24; (with_reducible refine (HN2.out _).mono ?_); rintro e w2 ⟨rfl, rfl⟩)
      | (go_at_call 24; (with_reducible refine (HN3.out _).mono ?_); rintro e w2 ⟨rfl, rfl⟩)
      | (go_at_call 6; refine (HE.out _).mono ?_; rintro e w5 ⟨rfl, hB5⟩; have hBx : Below w1.heap.size w1 (w1.alloc (.cells #[.int .i64 a0, .int .i64 a1, .int .i64 a2, .int .i64 a3, .string m, .string p] 23)) := (Below.refl _ _).alloc (Nat.le_refl _) _; have hB6 := hBx.trans (hB5.mono hBx.size); have t0 : w5.cell? ⟨w.heap.size, 0, none⟩ = some (.int .i64 0) := (hB6.cell (p := ⟨w.heap.size, 0, none⟩) hx3).trans r0; have k0 : w5.frozen? ⟨w.heap.size, 0, none⟩ = false := (hB6.frozen (p := ⟨w.heap.size, 0, none⟩) hx3).trans f0; have e0 : w5.cell? ⟨w1.heap.size, 0, none⟩ = some (.int .i64 a0) := (hB5.cell (p := ⟨w1.heap.size, 0, none⟩) (by simp)).trans (by simp); have t1 : w5.cell? ⟨w.heap.size, 1, none⟩ = some (.int .i64 0) := (hB6.cell (p := ⟨w.heap.size, 1, none⟩) hx3).trans r1; have k1 : w5.frozen? ⟨w.heap.size, 1, none⟩ = false := (hB6.frozen (p := ⟨w.heap.size, 1, none⟩) hx3).trans f1; have e1 : w5.cell? ⟨w1.heap.size, 1, none⟩ = some (.int .i64 a1) := (hB5.cell (p := ⟨w1.heap.size, 1, none⟩) (by simp)).trans (by simp); have t2 : w5.cell? ⟨w.heap.size, 2, none⟩ = some (.int .i64 0) := (hB6.cell (p := ⟨w.heap.size, 2, none⟩) hx3).trans r2; have k2 : w5.frozen? ⟨w.heap.size, 2, none⟩ = false := (hB6.frozen (p := ⟨w.heap.size, 2, none⟩) hx3).trans f2; have e2 : w5.cell? ⟨w1.heap.size, 2, none⟩ = some (.int .i64 a2) := (hB5.cell (p := ⟨w1.heap.size, 2, none⟩) (by simp)).trans (by simp); have t3 : w5.cell? ⟨w.heap.size, 3, none⟩ = some (.int .i64 0) := (hB6.cell (p := ⟨w.heap.size, 3, none⟩) hx3).trans r3; have k3 : w5.frozen? ⟨w.heap.size, 3, none⟩ = false := (hB6.frozen (p := ⟨w.heap.size, 3, none⟩) hx3).trans f3; have e3 : w5.cell? ⟨w1.heap.size, 3, none⟩ = some (.int .i64 a3) := (hB5.cell (p := ⟨w1.heap.size, 3, none⟩) (by simp)).trans (by simp); have t4 : w5.cell? ⟨w.heap.size, 4, none⟩ = some (.string ⟨#[]⟩) := (hB6.cell (p := ⟨w.heap.size, 4, none⟩) hx3).trans r4; have k4 : w5.frozen? ⟨w.heap.size, 4, none⟩ = false := (hB6.frozen (p := ⟨w.heap.size, 4, none⟩) hx3).trans f4; have e4 : w5.cell? ⟨w1.heap.size, 4, none⟩ = some (.string m) := (hB5.cell (p := ⟨w1.heap.size, 4, none⟩) (by simp)).trans (by simp); have t5 : w5.cell? ⟨w.heap.size, 5, none⟩ = some (.string ⟨#[]⟩) := (hB6.cell (p := ⟨w.heap.size, 5, none⟩) hx3).trans r5; have k5 : w5.frozen? ⟨w.heap.size, 5, none⟩ = false := (hB6.frozen (p := ⟨w.heap.size, 5, none⟩) hx3).trans f5; have e5 : w5.cell? ⟨w1.heap.size, 5, none⟩ = some (.string p) := (hB5.cell (p := ⟨w1.heap.size, 5, none⟩) (by simp)).trans (by simp); have HB6 := Lib.hid (HB1.out.trans (hB6.mono HB1.out.size)); clear hBx hB6 r0 r1 r2 r3 r4 r5 f0 f1 f2 f3 f4 f5 q0 q1 q2 q3 q4 q5; have HB5 := Lib.hid hB5; clear hB5)
      | fail)
      refine bodyPost_ret (v := .tuple #[.agg #[.int .i64 0, .int .i64 0, .int .i64 0, .int .i64 0, .string ⟨#[]⟩, .string ⟨#[]⟩], .bool false]) (by simp [results, Tryz.results10, go_sem, t0, t1, t2, t3, t4, t5]) rfl ⟨by rw [← HRR.out, if_neg HCK.out]; rfl, ?_⟩
      exact (((((HB6.out.setCell (Nat.le_refl _) _).setCell (Nat.le_refl _) _).setCell (Nat.le_refl _) _).setCell (Nat.le_refl _) _).setCell (Nat.le_refl _) _).setCell (Nat.le_refl _) _
  · have hps : refParse s = none := by
      unfold refParse
      have : entryR (wordsOf s) = none := by
        match h : wordsOf s, hn with
        | [], _ => rfl
        | [_], _ => rfl
        | [_, _], _ => rfl
        | [_, _, _], _ => rfl
        | [_, _, _, _], _ => rfl
        | [_, _, _, _, _], _ => rfl
        | [_, _, _, _, _, _], hn => exact absurd hn.symm h6
        | _ :: _ :: _ :: _ :: _ :: _ :: _ :: _, _ => rfl
      rw [this]
    rw [hps]
    have hne : ((n : Int) != 6) = true := bne_iff_ne.2 (by omega)
    clear hn hps h6 HS
    simp only [refV, enV, zeroEn]
    go_enter Tryz.func10, Tryz.ntmps10
    go_wp2_with fail
    have hB0 : Below w.heap.size w (w.alloc (.cells #[.int .i64 0, .int .i64 0, .int .i64 0, .int .i64 0, .string ⟨#[]⟩, .string ⟨#[]⟩] 23)) := (Below.refl _ _).alloc (Nat.le_refl _) _
    refine (HCUT.out _).mono ?_
    rintro e w1 ⟨v, rfl, hO, hB1⟩
    have r0 : w1.cell? ⟨w.heap.size, 0, none⟩ = some (.int .i64 0) := (hB1.cell (p := ⟨w.heap.size, 0, none⟩) (by simp)).trans (by simp)
    have f0 : w1.frozen? ⟨w.heap.size, 0, none⟩ = false := (hB1.frozen (p := ⟨w.heap.size, 0, none⟩) (by simp)).trans (by simp)
    have r1 : w1.cell? ⟨w.heap.size, 1, none⟩ = some (.int .i64 0) := (hB1.cell (p := ⟨w.heap.size, 1, none⟩) (by simp)).trans (by simp)
    have f1 : w1.frozen? ⟨w.heap.size, 1, none⟩ = false := (hB1.frozen (p := ⟨w.heap.size, 1, none⟩) (by simp)).trans (by simp)
    have r2 : w1.cell? ⟨w.heap.size, 2, none⟩ = some (.int .i64 0) := (hB1.cell (p := ⟨w.heap.size, 2, none⟩) (by simp)).trans (by simp)
    have f2 : w1.frozen? ⟨w.heap.size, 2, none⟩ = false := (hB1.frozen (p := ⟨w.heap.size, 2, none⟩) (by simp)).trans (by simp)
    have r3 : w1.cell? ⟨w.heap.size, 3, none⟩ = some (.int .i64 0) := (hB1.cell (p := ⟨w.heap.size, 3, none⟩) (by simp)).trans (by simp)
    have f3 : w1.frozen? ⟨w.heap.size, 3, none⟩ = false := (hB1.frozen (p := ⟨w.heap.size, 3, none⟩) (by simp)).trans (by simp)
    have r4 : w1.cell? ⟨w.heap.size, 4, none⟩ = some (.string ⟨#[]⟩) := (hB1.cell (p := ⟨w.heap.size, 4, none⟩) (by simp)).trans (by simp)
    have f4 : w1.frozen? ⟨w.heap.size, 4, none⟩ = false := (hB1.frozen (p := ⟨w.heap.size, 4, none⟩) (by simp)).trans (by simp)
    have r5 : w1.cell? ⟨w.heap.size, 5, none⟩ = some (.string ⟨#[]⟩) := (hB1.cell (p := ⟨w.heap.size, 5, none⟩) (by simp)).trans (by simp)
    have f5 : w1.frozen? ⟨w.heap.size, 5, none⟩ = false := (hB1.frozen (p := ⟨w.heap.size, 5, none⟩) (by simp)).trans (by simp)
    obtain ⟨a4, c4, e4, -⟩ := hO.slice
    rw [HN.out] at e4
    subst e4
    have HB1 := Lib.hid (hB0.trans (hB1.mono hB0.size))
    clear hB1 hB0 hO
    go_wp2_with fail
    refine bodyPost_ret (v := .tuple #[.agg #[.int .i64 0, .int .i64 0, .int .i64 0, .int .i64 0, .string ⟨#[]⟩, .string ⟨#[]⟩], .bool false]) (by simp [results, Tryz.results10, go_sem, r0, r1, r2, r3, r4, r5]) rfl ⟨rfl, ?_⟩
    exact (((((HB1.out.setCell (Nat.le_refl _) _).setCell (Nat.le_refl _) _).setCell (Nat.le_refl _) _).setCell (Nat.le_refl _) _).setCell (Nat.le_refl _) _).setCell (Nat.le_refl _) _
end Go.Proofs.YtcpkikillmmjcaaGreatDoor.LogC
