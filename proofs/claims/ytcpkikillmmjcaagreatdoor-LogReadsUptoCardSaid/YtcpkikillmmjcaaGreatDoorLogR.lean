/-
  log.Parse over this seat's translation, exactly.
  Conditions: how long the text is; the table of powers of ten; the variables that strconv's errors hold.
-/
import Derived.Test.YtcpkikillmmjcaaGreatDoorLogW
import Derived.StillTailTactics
import Derived.RegionTactic
import Derived.ChangeAlike
import Derived.BigRegion
import Derived.Lib.AtoiErrMem
namespace Go.Proofs.YtcpkikillmmjcaaGreatDoor.LogC
open Go.RowKit LogP LineC RowsK RowsM Args ModL
set_option linter.unusedVariables false
set_option linter.unusedSimpArgs false

def zeroEn : En := ⟨0, 0, 0, 0, ByteArray.empty, ByteArray.empty⟩
def anErr (v : Value) : Prop := v = .nilIface ∨ ∃ te pe, v = .iface te pe
/-- The variables that strconv's errors hold, and bytealg's greatest length. -/
structure Vars (w : World) : Prop where
  s : ∃ v, w.cell? ⟨1, 0, none⟩ = some v ∧ anErr v
  r : ∃ v, w.cell? ⟨2, 0, none⟩ = some v ∧ anErr v
  m : ∃ m, w.cell? ⟨3, 0, none⟩ = some (.int .i64 m)
  p : Pow10 w
theorem Vars.old {w w' : World} (h : Vars w) (hB : Below w.heap.size w w') : Vars w' := by
  obtain ⟨v, hv, h1⟩ := h.s
  obtain ⟨u, hu, h2⟩ := h.r
  obtain ⟨m, hm⟩ := h.m
  exact ⟨⟨v, (hB.cell (p := ⟨1, 0, none⟩) (block_lt_of_cell hv)).trans hv, h1⟩, ⟨u, (hB.cell (p := ⟨2, 0, none⟩) (block_lt_of_cell hu)).trans hu, h2⟩, ⟨m, (hB.cell (p := ⟨3, 0, none⟩) (block_lt_of_cell hm)).trans hm⟩, h.p.old hB⟩
theorem atoi_any (s : ByteArray) (hs : s.size ≤ 281474976710656) (w : World) (hv : Vars w) :
    Calls Tryz.prog 26 #[.string s] w fun e w' => (∃ ev, anErr ev ∧ e = .returned (.tuple #[.int .i64 (atoiV s.data.toList), ev])) ∧ Below w.heap.size w w' := by
  obtain ⟨v, hv1, h1⟩ := hv.s
  obtain ⟨u, hu1, h2⟩ := hv.r
  cases h : Lib.atoiAll s.data.toList with
  | ok n =>
    refine (Tryz.strconv_Atoi_ok s (by omega) n h w).mono ?_
    rintro e w' ⟨rfl, hw⟩
    refine ⟨⟨.nilIface, .inl rfl, by simp only [atoiV, h]⟩, ?_⟩
    rcases hw with rfl | ⟨t, rfl⟩
    · exact Below.refl _ _
    · exact Lib.bytesWorld_below w _ t
  | «syntax» =>
    refine (Tryz.strconv_Atoi_syntax s hs h v w hv1 h1).mono ?_
    rintro e w' ⟨N, rfl, -, -, hB⟩
    exact ⟨⟨_, .inr ⟨_, _, rfl⟩, by simp only [atoiV, h]; rfl⟩, hB⟩
  | range =>
    refine (Tryz.strconv_Atoi_range s hs h u w hu1 h2).mono ?_
    rintro e w' ⟨N, rfl, -, -, hB⟩
    exact ⟨⟨_, .inr ⟨_, _, rfl⟩, by simp only [atoiV, h]; rfl⟩, hB⟩
theorem split_any (s : ByteArray) (W : World) (hv : Vars W) (hs : s.size < 4294967281) :
    Calls Tryz.prog 25 #[.string s, .string ⟨#[32]⟩] W fun e w' => e = .returned (.slice (some ⟨W.heap.size, 0, none⟩) (wordsOf s).length (wordsOf s).length) ∧ (∀ j, j < (wordsOf s).length → w'.cell? ⟨W.heap.size, j, none⟩ = some (.string ((wordsOf s).getD j ByteArray.empty))) ∧ Below W.heap.size W w' ∧ W.heap.size < w'.heap.size := by
  obtain ⟨m, hm⟩ := hv.m
  refine (Tryz.strings_Split s sepB m W hs hm (by decide)).mono ?_
  rintro e w' ⟨rfl, rfl⟩
  refine ⟨by rw [words_len], fun j hj => ?_, (Below.refl _ _).alloc (Nat.le_refl _) _, by simp⟩
  rw [World.cell?_alloc_new]
  have h : (wordsOf s)[j]? = some ((wordsOf s).getD j ByteArray.empty) := by
    rw [List.getD_eq_getElem?_getD, List.getElem?_eq_getElem hj]; rfl
  show (((wordsOf s).map Value.string).toArray)[j]? = _
  rw [List.getElem?_toArray, List.getElem?_map, h]; rfl
/-- The entry half read: the first k numbers stand. -/
structure EB (w : World) (b : Nat) (vals : List Int) (m p : ByteArray) (k : Nat) : Prop where
  n : ∀ j, j < 4 → w.cell? ⟨b, j, none⟩ = some (.int .i64 (if j < k then vals.getD j 0 else 0))
  m : w.cell? ⟨b, 4, none⟩ = some (.string m)
  p : w.cell? ⟨b, 5, none⟩ = some (.string p)
  fz : ∀ j, j < 6 → w.frozen? ⟨b, j, none⟩ = false
theorem EB.old {w w' : World} {b : Nat} {vals : List Int} {m p : ByteArray} {k : Nat} (h : EB w b vals m p k) (hB : Below w.heap.size w w') : EB w' b vals m p k := by
  have hb : b < w.heap.size := block_lt_of_cell h.m
  exact ⟨fun j hj => (hB.cell (p := ⟨b, j, none⟩) hb).trans (h.n j hj), (hB.cell (p := ⟨b, 4, none⟩) hb).trans h.m, (hB.cell (p := ⟨b, 5, none⟩) hb).trans h.p, fun j hj => (hB.frozen (p := ⟨b, j, none⟩) hb).trans (h.fz j hj)⟩
theorem EB.put {w : World} {b : Nat} {vals : List Int} {m p : ByteArray} {k : Nat} (h : EB w b vals m p k) (hk : k < 4) : EB (w.setCell ⟨b, k, none⟩ (.int .i64 (vals.getD k 0))) b vals m p (k + 1) := by
  refine ⟨fun j hj => ?_, ?_, ?_, fun j hj => by simpa using h.fz j hj⟩
  · by_cases hjk : j = k
    · subst hjk
      rw [World.cell?_setCell_same _ _ _ (h.n j hj), if_pos (Nat.lt_succ_self _)]
    · rw [World.cell?_setCell_other _ _ _ _ (by simp [Ne.symm hjk, hjk]), h.n j hj]
      by_cases hlt : j < k
      · rw [if_pos hlt, if_pos (by omega)]
      · rw [if_neg hlt, if_neg (by omega)]
  · rw [World.cell?_setCell_other _ _ _ _ (by simp; try omega)]; exact h.m
  · rw [World.cell?_setCell_other _ _ _ _ (by simp; try omega)]; exact h.p
/-- What Parse hands back. -/
def readV (o : Option En) : Value := match o with
  | some en => .tuple #[enV en, .nilIface]
  | none => .tuple #[enV zeroEn, .iface 52 (.int .i64 2)]
set_option maxRecDepth 100000 in
set_option maxHeartbeats 8000000 in
theorem parse_any (s : ByteArray) (hs : s.size < 4294967281) (w : World) (hv : Vars w) : Calls Tryz.prog 11 #[.string s] w fun e w' => e = .returned (readV (parseS s)) ∧ Below w.heap.size w w' := by
  have HS : Hid (s.size < 4294967281) := hs
  have HV := Lib.hid hv
  have HSP := Lib.hid (fun W hW => split_any s W hW hs)
  clear hs hv
  obtain ⟨n, hn⟩ : ∃ n, (wordsOf s).length = n := ⟨_, rfl⟩
  have HN := Lib.hid hn
  rw [hn] at HSP
  by_cases h6 : n = 6
  · obtain ⟨p0, p1, p2, p3, m, p, hp⟩ : ∃ p0 p1 p2 p3 m p, wordsOf s = [p0, p1, p2, p3, m, p] := by
      have hl : (wordsOf s).length = 6 := hn.trans h6
      match wordsOf s, hl with
      | [p0, p1, p2, p3, m, p], _ => exact ⟨p0, p1, p2, p3, m, p, rfl⟩
    subst h6
    rw [hp] at HSP
    have HPS := Lib.hid hp
    obtain ⟨vals, hvals⟩ : ∃ vals : List Int, vals = [atoiV p0.data.toList, atoiV p1.data.toList, atoiV p2.data.toList, atoiV p3.data.toList] := ⟨_, rfl⟩
    have HVL := Lib.hid hvals
    clear hvals
    clear hn hp
    go_enter Tryz.func11, Tryz.ntmps11
    go_wp2_with fail
    have hB0 : Below w.heap.size w (w.alloc (.cells #[.int .i64 0, .int .i64 0, .int .i64 0, .int .i64 0, .string ⟨#[]⟩, .string ⟨#[]⟩] 23)) := (Below.refl _ _).alloc (Nat.le_refl _) _
    refine (HSP.out _ (HV.out.old hB0)).mono ?_
    rintro e w1 ⟨rfl, hwd, hB1, hlt1⟩
    have r0 : w1.cell? ⟨w.heap.size, 0, none⟩ = some (.int .i64 0) := (hB1.cell (p := ⟨w.heap.size, 0, none⟩) (by simp)).trans (by simp)
    have f0 : w1.frozen? ⟨w.heap.size, 0, none⟩ = false := (hB1.frozen (p := ⟨w.heap.size, 0, none⟩) (by simp)).trans (by simp)
    have r1 : w1.cell? ⟨w.heap.size, 1, none⟩ = some (.int .i64 0) := (hB1.cell (p := ⟨w.heap.size, 1, none⟩) (by simp)).trans (by simp)
    have f1 : w1.frozen? ⟨w.heap.size, 1, none⟩ = false := (hB1.frozen (p := ⟨w.heap.size, 1, none⟩) (by simp)).trans (by simp)
    have r2 : w1.cell? ⟨w.heap.size, 2, none⟩ = some (.int .i64 0) := (hB1.cell (p := ⟨w.heap.size, 2, none⟩) (by simp)).trans (by simp)
    have f2 : w1.frozen? ⟨w.heap.size, 2, none⟩ = false := (hB1.frozen (p := ⟨w.heap.size, 2, none⟩) (by simp)).trans (by simp)
    have r3 : w1.cell? ⟨w.heap.size, 3, none⟩ = some (.int .i64 0) := (hB1.cell (p := ⟨w.heap.size, 3, none⟩) (by simp)).trans (by simp)
    have f3 : w1.frozen? ⟨w.heap.size, 3, none⟩ = false := (hB1.frozen (p := ⟨w.heap.size, 3, none⟩) (by simp)).trans (by simp)
    have r4 : w1.cell? ⟨w.heap.size, 4, none⟩ = some (.string ⟨#[]⟩) := (hB1.cell (p := ⟨w.heap.size, 4, none⟩) (by simp)).trans (by simp)
    have f4 : w1.frozen? ⟨w.heap.size, 4, none⟩ = false := (hB1.frozen (p := ⟨w.heap.size, 4, none⟩) (by simp)).trans (by simp)
    have r5 : w1.cell? ⟨w.heap.size, 5, none⟩ = some (.string ⟨#[]⟩) := (hB1.cell (p := ⟨w.heap.size, 5, none⟩) (by simp)).trans (by simp)
    have f5 : w1.frozen? ⟨w.heap.size, 5, none⟩ = false := (hB1.frozen (p := ⟨w.heap.size, 5, none⟩) (by simp)).trans (by simp)
    have q0 : w1.cell? ⟨w.heap.size + 1, 0, none⟩ = some (.string p0) := by have h := hwd 0 (by decide); simpa using h
    have q1 : w1.cell? ⟨w.heap.size + 1, 1, none⟩ = some (.string p1) := by have h := hwd 1 (by decide); simpa using h
    have q2 : w1.cell? ⟨w.heap.size + 1, 2, none⟩ = some (.string p2) := by have h := hwd 2 (by decide); simpa using h
    have q3 : w1.cell? ⟨w.heap.size + 1, 3, none⟩ = some (.string p3) := by have h := hwd 3 (by decide); simpa using h
    have q4 : w1.cell? ⟨w.heap.size + 1, 4, none⟩ = some (.string m) := by have h := hwd 4 (by decide); simpa using h
    have q5 : w1.cell? ⟨w.heap.size + 1, 5, none⟩ = some (.string p) := by have h := hwd 5 (by decide); simpa using h
    have hs1 : w.heap.size + 1 < w1.heap.size := by simpa using hlt1
    have HB1 := Lib.hid (hB0.trans (hB1.mono hB0.size))
    clear hB1 hB0 hwd hlt1
    go_wp2_with fail
    go_region
    have heb : EB (w1.alloc (.cells #[.int .i64 0, .int .i64 0, .int .i64 0, .int .i64 0, .string m, .string p] 23)).drew w1.heap.size vals m p 0 := by
      refine ⟨fun j hj => ?_, by simp, by simp, fun j hj => by simp⟩
      rcases j with _ | _ | _ | _ | j
      · simp
      · simp
      · simp
      · simp
      · omega
    have hB2 : Below w1.heap.size w1 (w1.alloc (.cells #[.int .i64 0, .int .i64 0, .int .i64 0, .int .i64 0, .string m, .string p] 23)).drew := ((Below.refl _ _).alloc (Nat.le_refl _) _).drew
    have hsz2 : (w1.alloc (.cells #[.int .i64 0, .int .i64 0, .int .i64 0, .int .i64 0, .string m, .string p] 23)).drew.heap.size = w1.heap.size + 1 := by simp
    have hEq : ∃ w2, w2 = (w1.alloc (.cells #[.int .i64 0, .int .i64 0, .int .i64 0, .int .i64 0, .string m, .string p] 23)).drew := ⟨_, rfl⟩
    have s0 := (hB2.cell (p := ⟨w.heap.size + 1, 0, none⟩) hs1).trans q0
    have s1 := (hB2.cell (p := ⟨w.heap.size + 1, 1, none⟩) hs1).trans q1
    have s2 := (hB2.cell (p := ⟨w.heap.size + 1, 2, none⟩) hs1).trans q2
    have s3 := (hB2.cell (p := ⟨w.heap.size + 1, 3, none⟩) hs1).trans q3
    have t0 := (hB2.cell (p := ⟨w.heap.size, 0, none⟩) (Nat.lt_trans (Nat.lt_succ_self _) hs1)).trans r0
    have g0 := (hB2.frozen (p := ⟨w.heap.size, 0, none⟩) (Nat.lt_trans (Nat.lt_succ_self _) hs1)).trans f0
    have t1 := (hB2.cell (p := ⟨w.heap.size, 1, none⟩) (Nat.lt_trans (Nat.lt_succ_self _) hs1)).trans r1
    have g1 := (hB2.frozen (p := ⟨w.heap.size, 1, none⟩) (Nat.lt_trans (Nat.lt_succ_self _) hs1)).trans f1
    have t2 := (hB2.cell (p := ⟨w.heap.size, 2, none⟩) (Nat.lt_trans (Nat.lt_succ_self _) hs1)).trans r2
    have g2 := (hB2.frozen (p := ⟨w.heap.size, 2, none⟩) (Nat.lt_trans (Nat.lt_succ_self _) hs1)).trans f2
    have t3 := (hB2.cell (p := ⟨w.heap.size, 3, none⟩) (Nat.lt_trans (Nat.lt_succ_self _) hs1)).trans r3
    have g3 := (hB2.frozen (p := ⟨w.heap.size, 3, none⟩) (Nat.lt_trans (Nat.lt_succ_self _) hs1)).trans f3
    have t4 := (hB2.cell (p := ⟨w.heap.size, 4, none⟩) (Nat.lt_trans (Nat.lt_succ_self _) hs1)).trans r4
    have g4 := (hB2.frozen (p := ⟨w.heap.size, 4, none⟩) (Nat.lt_trans (Nat.lt_succ_self _) hs1)).trans f4
    have t5 := (hB2.cell (p := ⟨w.heap.size, 5, none⟩) (Nat.lt_trans (Nat.lt_succ_self _) hs1)).trans r5
    have g5 := (hB2.frozen (p := ⟨w.heap.size, 5, none⟩) (Nat.lt_trans (Nat.lt_succ_self _) hs1)).trans f5
    have HB2 := Lib.hid (HB1.out.trans (hB2.mono HB1.out.size))
    have HEB := Lib.hid heb
    clear hEq heb hB2 HB1 q0 q1 q2 q3 q4 q5 r0 f0 r1 f1 r2 f2 r3 f3 r4 f4 r5 f5
    generalize (w1.alloc (.cells #[.int .i64 0, .int .i64 0, .int .i64 0, .int .i64 0, .string m, .string p] 23)).drew = w2 at *
    go_wp2_with fail
    have hB3 : Below w2.heap.size w2 (w2.alloc (.cells #[.pointer (some ⟨w1.heap.size, 0, none⟩), .pointer (some ⟨w1.heap.size, 1, none⟩), .pointer (some ⟨w1.heap.size, 2, none⟩), .pointer (some ⟨w1.heap.size, 3, none⟩)] 56)) := (Below.refl _ _).alloc (Nat.le_refl _) _
    have hpc : ∀ k, k < 4 → (w2.alloc (.cells #[.pointer (some ⟨w1.heap.size, 0, none⟩), .pointer (some ⟨w1.heap.size, 1, none⟩), .pointer (some ⟨w1.heap.size, 2, none⟩), .pointer (some ⟨w1.heap.size, 3, none⟩)] 56)).cell? ⟨w2.heap.size, k, none⟩ = some (.pointer (some ⟨w1.heap.size, k, none⟩)) := fun k hk => by
      rcases k with _ | _ | _ | _ | k
      · simp
      · simp
      · simp
      · simp
      · omega
    have hsz3 : (w2.alloc (.cells #[.pointer (some ⟨w1.heap.size, 0, none⟩), .pointer (some ⟨w1.heap.size, 1, none⟩), .pointer (some ⟨w1.heap.size, 2, none⟩), .pointer (some ⟨w1.heap.size, 3, none⟩)] 56)).heap.size = w2.heap.size + 1 := by simp
    have HEB3 := Lib.hid (HEB.out.old hB3)
    have HPC := Lib.hid hpc
    have HWC : Hid (∀ k, k < 4 → (w2.alloc (.cells #[.pointer (some ⟨w1.heap.size, 0, none⟩), .pointer (some ⟨w1.heap.size, 1, none⟩), .pointer (some ⟨w1.heap.size, 2, none⟩), .pointer (some ⟨w1.heap.size, 3, none⟩)] 56)).cell? ⟨w.heap.size + 1, k, none⟩ = some (.string ([p0, p1, p2, p3].getD k ByteArray.empty))) := fun k hk => by
      have hh : w.heap.size + 1 < w2.heap.size := by omega
      rcases k with _ | _ | _ | _ | k
      · exact (hB3.cell (p := ⟨w.heap.size + 1, 0, none⟩) hh).trans s0
      · exact (hB3.cell (p := ⟨w.heap.size + 1, 1, none⟩) hh).trans s1
      · exact (hB3.cell (p := ⟨w.heap.size + 1, 2, none⟩) hh).trans s2
      · exact (hB3.cell (p := ⟨w.heap.size + 1, 3, none⟩) hh).trans s3
      · omega
    have hh : w.heap.size < w2.heap.size := by omega
    have u0 := (hB3.cell (p := ⟨w.heap.size, 0, none⟩) hh).trans t0
    have v0 := (hB3.frozen (p := ⟨w.heap.size, 0, none⟩) hh).trans g0
    have u1 := (hB3.cell (p := ⟨w.heap.size, 1, none⟩) hh).trans t1
    have v1 := (hB3.frozen (p := ⟨w.heap.size, 1, none⟩) hh).trans g1
    have u2 := (hB3.cell (p := ⟨w.heap.size, 2, none⟩) hh).trans t2
    have v2 := (hB3.frozen (p := ⟨w.heap.size, 2, none⟩) hh).trans g2
    have u3 := (hB3.cell (p := ⟨w.heap.size, 3, none⟩) hh).trans t3
    have v3 := (hB3.frozen (p := ⟨w.heap.size, 3, none⟩) hh).trans g3
    have u4 := (hB3.cell (p := ⟨w.heap.size, 4, none⟩) hh).trans t4
    have v4 := (hB3.frozen (p := ⟨w.heap.size, 4, none⟩) hh).trans g4
    have u5 := (hB3.cell (p := ⟨w.heap.size, 5, none⟩) hh).trans t5
    have v5 := (hB3.frozen (p := ⟨w.heap.size, 5, none⟩) hh).trans g5
    have HB3 := Lib.hid (HB2.out.trans (hB3.mono HB2.out.size))
    have HSS : Hid (w.heap.size + 1 < w1.heap.size ∧ w2.heap.size = w1.heap.size + 1 ∧ (w2.alloc (.cells #[.pointer (some ⟨w1.heap.size, 0, none⟩), .pointer (some ⟨w1.heap.size, 1, none⟩), .pointer (some ⟨w1.heap.size, 2, none⟩), .pointer (some ⟨w1.heap.size, 3, none⟩)] 56)).heap.size = w2.heap.size + 1) := ⟨hs1, hsz2, hsz3⟩
    have HRC : Hid ((w2.alloc (.cells #[.pointer (some ⟨w1.heap.size, 0, none⟩), .pointer (some ⟨w1.heap.size, 1, none⟩), .pointer (some ⟨w1.heap.size, 2, none⟩), .pointer (some ⟨w1.heap.size, 3, none⟩)] 56)).cell? ⟨w.heap.size, 0, none⟩ = some (.int .i64 0) ∧ (w2.alloc (.cells #[.pointer (some ⟨w1.heap.size, 0, none⟩), .pointer (some ⟨w1.heap.size, 1, none⟩), .pointer (some ⟨w1.heap.size, 2, none⟩), .pointer (some ⟨w1.heap.size, 3, none⟩)] 56)).cell? ⟨w.heap.size, 1, none⟩ = some (.int .i64 0) ∧ (w2.alloc (.cells #[.pointer (some ⟨w1.heap.size, 0, none⟩), .pointer (some ⟨w1.heap.size, 1, none⟩), .pointer (some ⟨w1.heap.size, 2, none⟩), .pointer (some ⟨w1.heap.size, 3, none⟩)] 56)).cell? ⟨w.heap.size, 2, none⟩ = some (.int .i64 0) ∧ (w2.alloc (.cells #[.pointer (some ⟨w1.heap.size, 0, none⟩), .pointer (some ⟨w1.heap.size, 1, none⟩), .pointer (some ⟨w1.heap.size, 2, none⟩), .pointer (some ⟨w1.heap.size, 3, none⟩)] 56)).cell? ⟨w.heap.size, 3, none⟩ = some (.int .i64 0) ∧ (w2.alloc (.cells #[.pointer (some ⟨w1.heap.size, 0, none⟩), .pointer (some ⟨w1.heap.size, 1, none⟩), .pointer (some ⟨w1.heap.size, 2, none⟩), .pointer (some ⟨w1.heap.size, 3, none⟩)] 56)).cell? ⟨w.heap.size, 4, none⟩ = some (.string ⟨#[]⟩) ∧ (w2.alloc (.cells #[.pointer (some ⟨w1.heap.size, 0, none⟩), .pointer (some ⟨w1.heap.size, 1, none⟩), .pointer (some ⟨w1.heap.size, 2, none⟩), .pointer (some ⟨w1.heap.size, 3, none⟩)] 56)).cell? ⟨w.heap.size, 5, none⟩ = some (.string ⟨#[]⟩) ∧ ∀ j, j < 6 → (w2.alloc (.cells #[.pointer (some ⟨w1.heap.size, 0, none⟩), .pointer (some ⟨w1.heap.size, 1, none⟩), .pointer (some ⟨w1.heap.size, 2, none⟩), .pointer (some ⟨w1.heap.size, 3, none⟩)] 56)).frozen? ⟨w.heap.size, j, none⟩ = false) := ⟨u0, u1, u2, u3, u4, u5, fun j hj => by
      rcases j with _ | _ | _ | _ | _ | _ | j
      · exact v0
      · exact v1
      · exact v2
      · exact v3
      · exact v4
      · exact v5
      · omega⟩
    clear hB3 hpc hh hs1 hsz2 hsz3 HB2 HEB s0 s1 s2 s3 t0 g0 u0 v0 t1 g1 u1 v1 t2 g2 u2 v2 t3 g3 u3 v3 t4 g4 u4 v4 t5 g5 u5 v5
    generalize (w2.alloc (.cells #[.pointer (some ⟨w1.heap.size, 0, none⟩), .pointer (some ⟨w1.heap.size, 1, none⟩), .pointer (some ⟨w1.heap.size, 2, none⟩), .pointer (some ⟨w1.heap.size, 3, none⟩)] 56)) = W1 at *
    go_loopw [6, 7, 28] (fun v6 v7 i wr => ∃ k : Nat, i = .int .i64 (k : Int) ∧ k ≤ 4 ∧ Hid (EB wr w1.heap.size vals m p k ∧ Mod (fun b => b = w1.heap.size) W1 wr)) (fun _ _ i _ => 4 - (intOf i).toNat)
    case atStart => exact ⟨0, rfl, by omega, HEB3.out, Mod.refl _ _⟩
    case round =>
      obtain ⟨k, rfl, hk, HR⟩ := hrel
      have HRR := HR
      clear HR
      by_cases hlt : k < 4
      · have hlt4 : (k : Int) < 4 := by omega
        have hlt6 : (k : Int) < 6 := by omega
        have hk0 : (0 : Int) ≤ (k : Int) := by omega
        have x1 := (HRR.out.2.cell (p := ⟨w2.heap.size, k, none⟩) (by have := HSS.out; simp only; omega) (by have := HSS.out; simp only; omega)).trans (HPC.out k hlt)
        rw [show w2.heap.size = w1.heap.size + 1 from HSS.out.2.1] at x1
        have x2 := (HRR.out.2.cell (p := ⟨w.heap.size + 1, k, none⟩) (by have := HSS.out; simp only; omega) (by have := HSS.out; simp only; omega)).trans (HWC.out k hlt)
        have hBr : Below w.heap.size w wr := HB3.out.trans (HRR.out.2.toBelow (B := w.heap.size) HB3.out.size (fun b hb e => by have := HSS.out; omega))
        have hval : atoiV (([p0, p1, p2, p3] : List ByteArray).getD k ByteArray.empty).data.toList = vals.getD k 0 := by
          rw [HVL.out]
          rcases k with _ | _ | _ | _ | k
          · rfl
          · rfl
          · rfl
          · rfl
          · omega
        have hmem : ([p0, p1, p2, p3] : List ByteArray).getD k ByteArray.empty ∈ wordsOf s := by
          rw [HPS.out]
          rcases k with _ | _ | _ | _ | k
          · simp
          · simp
          · simp
          · simp
          · omega
        have HAT := Lib.hid (atoi_any (([p0, p1, p2, p3] : List ByteArray).getD k ByteArray.empty) (by have := piece_le _ _ hmem; have := HS.out; omega) wr (HV.out.old hBr))
        rw [hval] at HAT
        clear hval hmem hBr
        generalize ([p0, p1, p2, p3] : List ByteArray).getD k ByteArray.empty = pk at *
        go_wp2_with (first
          | (go_at_call 26; refine HAT.out.mono ?_; rintro e w3 ⟨⟨ev, hev, rfl⟩, hB3⟩; have HEB4 := Lib.hid (HRR.out.1.old hB3); have y1 : w3.cell? ⟨w1.heap.size, k, none⟩ = some (.int .i64 0) := (by have h := HEB4.out.n k hlt; rwa [if_neg (Nat.lt_irrefl k)] at h); have y2 := HEB4.out.fz k (by omega); have HM4 := Lib.hid (HRR.out.2.below hB3 (fun b hb hge => by have := HRR.out.2.size; omega)); clear hB3 hev; dsimp only)
          | fail)
        go_roundw
        case rel => exact ⟨k + 1, by simp, by omega, HEB4.out.put hlt, HM4.out.setCell (fun _ => rfl) _⟩
        case measure => simp [intOf]; omega
      · obtain rfl : k = 4 := by omega
        have hBr : Below w.heap.size w wr := HB3.out.trans (HRR.out.2.toBelow (B := w.heap.size) HB3.out.size (fun b hb e => by have := HSS.out; omega))
        have hVr := HV.out.old hBr
        have HBR := Lib.hid hBr
        obtain ⟨en, hen⟩ : ∃ en : En, en = ⟨atoiV p0.data.toList, atoiV p1.data.toList, atoiV p2.data.toList, atoiV p3.data.toList, m, p⟩ := ⟨_, rfl⟩
        have e0 : wr.cell? ⟨w1.heap.size, 0, none⟩ = some (.int .i64 en.time) := by have h := HRR.out.1.n 0 (by decide); rw [HVL.out] at h; rw [hen]; exact h
        have e1 : wr.cell? ⟨w1.heap.size, 1, none⟩ = some (.int .i64 en.code) := by have h := HRR.out.1.n 1 (by decide); rw [HVL.out] at h; rw [hen]; exact h
        have e2 : wr.cell? ⟨w1.heap.size, 2, none⟩ = some (.int .i64 en.bytes) := by have h := HRR.out.1.n 2 (by decide); rw [HVL.out] at h; rw [hen]; exact h
        have e3 : wr.cell? ⟨w1.heap.size, 3, none⟩ = some (.int .i64 en.took) := by have h := HRR.out.1.n 3 (by decide); rw [HVL.out] at h; rw [hen]; exact h
        have e4 : wr.cell? ⟨w1.heap.size, 4, none⟩ = some (.string en.method) := by rw [hen]; exact HRR.out.1.m
        have e5 : wr.cell? ⟨w1.heap.size, 5, none⟩ = some (.string en.path) := by rw [hen]; exact HRR.out.1.p
        have hps : parseS s = if checkE en = 0 ∧ writeE en = s.data.toList then some en else none := by
          unfold parseS
          rw [HPS.out]
          simp only [entryOf]
          rw [← hen]
        have HPA := Lib.hid hps
        have hlr : w.heap.size < wr.heap.size ∧ w1.heap.size < wr.heap.size ∧ w.heap.size ≠ w1.heap.size := by
          have := HSS.out; have := HRR.out.2.size; omega
        obtain ⟨z0, z1, z2, z3, z4, z5, zf⟩ := HRC.out
        have r0 := (HRR.out.2.cell (p := ⟨w.heap.size, 0, none⟩) (by have := HSS.out; simp only; omega) hlr.2.2).trans z0
        have f0 := (HRR.out.2.frozen (p := ⟨w.heap.size, 0, none⟩) (by have := HSS.out; simp only; omega) hlr.2.2).trans (zf 0 (by decide))
        have r1 := (HRR.out.2.cell (p := ⟨w.heap.size, 1, none⟩) (by have := HSS.out; simp only; omega) hlr.2.2).trans z1
        have f1 := (HRR.out.2.frozen (p := ⟨w.heap.size, 1, none⟩) (by have := HSS.out; simp only; omega) hlr.2.2).trans (zf 1 (by decide))
        have r2 := (HRR.out.2.cell (p := ⟨w.heap.size, 2, none⟩) (by have := HSS.out; simp only; omega) hlr.2.2).trans z2
        have f2 := (HRR.out.2.frozen (p := ⟨w.heap.size, 2, none⟩) (by have := HSS.out; simp only; omega) hlr.2.2).trans (zf 2 (by decide))
        have r3 := (HRR.out.2.cell (p := ⟨w.heap.size, 3, none⟩) (by have := HSS.out; simp only; omega) hlr.2.2).trans z3
        have f3 := (HRR.out.2.frozen (p := ⟨w.heap.size, 3, none⟩) (by have := HSS.out; simp only; omega) hlr.2.2).trans (zf 3 (by decide))
        have r4 := (HRR.out.2.cell (p := ⟨w.heap.size, 4, none⟩) (by have := HSS.out; simp only; omega) hlr.2.2).trans z4
        have f4 := (HRR.out.2.frozen (p := ⟨w.heap.size, 4, none⟩) (by have := HSS.out; simp only; omega) hlr.2.2).trans (zf 4 (by decide))
        have r5 := (HRR.out.2.cell (p := ⟨w.heap.size, 5, none⟩) (by have := HSS.out; simp only; omega) hlr.2.2).trans z5
        have f5 := (HRR.out.2.frozen (p := ⟨w.heap.size, 5, none⟩) (by have := HSS.out; simp only; omega) hlr.2.2).trans (zf 5 (by decide))
        have HVR := Lib.hid hVr
        have HLR := Lib.hid hlr
        clear hps hen hBr hVr z0 z1 z2 z3 z4 z5 zf hlr HPS HRR
        have HCK := Lib.hid (check_any en wr)
        simp only [enV] at HCK
        by_cases hz : checkE en = 0
        · rw [show errV (checkE en) = .nilIface from by rw [hz]; rfl] at HCK
          have HWR := Lib.hid (fun W hW => write_any en hz W hW)
          simp only [enV] at HWR
          have HZ := Lib.hid hz
          clear hz
          obtain ⟨x, hx⟩ : ∃ x : ByteArray, x = ⟨(writeE en).toArray⟩ := ⟨_, rfl⟩
          rw [← hx] at HWR
          have HX : Hid (x.data.toList = writeE en) := by show x.data.toList = writeE en; simp [hx]
          clear hx
          by_cases heq : writeE en = s.data.toList
          · have hps : parseS s = some en := by rw [HPA.out, if_pos ⟨HZ.out, heq⟩]
            have hxs : (x.toList == s.toList) = true := by rw [beq_iff_eq, ByteArray.toList_eq, ByteArray.toList_eq, HX.out, heq]
            have HPP := Lib.hid hps
            clear hps heq HPA
            go_wp2_with (first
              | (go_at_call 20; refine HCK.out.mono ?_; rintro e w5 ⟨rfl, hB5⟩; have s0 := (hB5.cell (p := ⟨w.heap.size, 0, none⟩) HLR.out.1).trans r0; have g0 := (hB5.frozen (p := ⟨w.heap.size, 0, none⟩) HLR.out.1).trans f0; have a0 := (hB5.cell (p := ⟨w1.heap.size, 0, none⟩) HLR.out.2.1).trans e0; have s1 := (hB5.cell (p := ⟨w.heap.size, 1, none⟩) HLR.out.1).trans r1; have g1 := (hB5.frozen (p := ⟨w.heap.size, 1, none⟩) HLR.out.1).trans f1; have a1 := (hB5.cell (p := ⟨w1.heap.size, 1, none⟩) HLR.out.2.1).trans e1; have s2 := (hB5.cell (p := ⟨w.heap.size, 2, none⟩) HLR.out.1).trans r2; have g2 := (hB5.frozen (p := ⟨w.heap.size, 2, none⟩) HLR.out.1).trans f2; have a2 := (hB5.cell (p := ⟨w1.heap.size, 2, none⟩) HLR.out.2.1).trans e2; have s3 := (hB5.cell (p := ⟨w.heap.size, 3, none⟩) HLR.out.1).trans r3; have g3 := (hB5.frozen (p := ⟨w.heap.size, 3, none⟩) HLR.out.1).trans f3; have a3 := (hB5.cell (p := ⟨w1.heap.size, 3, none⟩) HLR.out.2.1).trans e3; have s4 := (hB5.cell (p := ⟨w.heap.size, 4, none⟩) HLR.out.1).trans r4; have g4 := (hB5.frozen (p := ⟨w.heap.size, 4, none⟩) HLR.out.1).trans f4; have a4 := (hB5.cell (p := ⟨w1.heap.size, 4, none⟩) HLR.out.2.1).trans e4; have s5 := (hB5.cell (p := ⟨w.heap.size, 5, none⟩) HLR.out.1).trans r5; have g5 := (hB5.frozen (p := ⟨w.heap.size, 5, none⟩) HLR.out.1).trans f5; have a5 := (hB5.cell (p := ⟨w1.heap.size, 5, none⟩) HLR.out.2.1).trans e5; have hl5 := Nat.lt_of_lt_of_le HLR.out.1 hB5.size; have hl6 := Nat.lt_of_lt_of_le HLR.out.2.1 hB5.size; have HV5 := Lib.hid (HVR.out.old hB5).p; have HB5 := Lib.hid (HBR.out.trans (hB5.mono HBR.out.size)); clear hB5 r0 r1 r2 r3 r4 r5 f0 f1 f2 f3 f4 f5 e0 e1 e2 e3 e4 e5)
              | (go_at_call 21; refine (HWR.out _ HV5.out).mono ?_; rintro e w6 ⟨rfl, hB6⟩; have t0 := (hB6.cell (p := ⟨w.heap.size, 0, none⟩) hl5).trans s0; have k0 := (hB6.frozen (p := ⟨w.heap.size, 0, none⟩) hl5).trans g0; have b0 := (hB6.cell (p := ⟨w1.heap.size, 0, none⟩) hl6).trans a0; have t1 := (hB6.cell (p := ⟨w.heap.size, 1, none⟩) hl5).trans s1; have k1 := (hB6.frozen (p := ⟨w.heap.size, 1, none⟩) hl5).trans g1; have b1 := (hB6.cell (p := ⟨w1.heap.size, 1, none⟩) hl6).trans a1; have t2 := (hB6.cell (p := ⟨w.heap.size, 2, none⟩) hl5).trans s2; have k2 := (hB6.frozen (p := ⟨w.heap.size, 2, none⟩) hl5).trans g2; have b2 := (hB6.cell (p := ⟨w1.heap.size, 2, none⟩) hl6).trans a2; have t3 := (hB6.cell (p := ⟨w.heap.size, 3, none⟩) hl5).trans s3; have k3 := (hB6.frozen (p := ⟨w.heap.size, 3, none⟩) hl5).trans g3; have b3 := (hB6.cell (p := ⟨w1.heap.size, 3, none⟩) hl6).trans a3; have t4 := (hB6.cell (p := ⟨w.heap.size, 4, none⟩) hl5).trans s4; have k4 := (hB6.frozen (p := ⟨w.heap.size, 4, none⟩) hl5).trans g4; have b4 := (hB6.cell (p := ⟨w1.heap.size, 4, none⟩) hl6).trans a4; have t5 := (hB6.cell (p := ⟨w.heap.size, 5, none⟩) hl5).trans s5; have k5 := (hB6.frozen (p := ⟨w.heap.size, 5, none⟩) hl5).trans g5; have b5 := (hB6.cell (p := ⟨w1.heap.size, 5, none⟩) hl6).trans a5; have HB6 := Lib.hid (HB5.out.trans (hB6.mono HB5.out.size)); clear hB6 s0 s1 s2 s3 s4 s5 g0 g1 g2 g3 g4 g5 a0 a1 a2 a3 a4 a5)
              | fail)
            refine bodyPost_ret (v := .tuple #[.agg #[.int .i64 en.time, .int .i64 en.code, .int .i64 en.bytes, .int .i64 en.took, .string en.method, .string en.path], .nilIface]) (by simp [results, Tryz.results11, go_sem, t0, t1, t2, t3, t4, t5]) rfl ⟨by rw [HPP.out]; rfl, ?_⟩
            exact (((((HB6.out.setCell (Nat.le_refl _) _).setCell (Nat.le_refl _) _).setCell (Nat.le_refl _) _).setCell (Nat.le_refl _) _).setCell (Nat.le_refl _) _).setCell (Nat.le_refl _) _
          · have hps : parseS s = none := by rw [HPA.out, if_neg (fun h => heq h.2)]
            have hxs : (x.toList == s.toList) = false := by
              rw [beq_eq_false_iff_ne, ByteArray.toList_eq, ByteArray.toList_eq, HX.out]; exact heq
            have HPP := Lib.hid hps
            clear hps heq HPA
            go_wp2_with (first
              | (go_at_call 20; refine HCK.out.mono ?_; rintro e w5 ⟨rfl, hB5⟩; have s0 := (hB5.cell (p := ⟨w.heap.size, 0, none⟩) HLR.out.1).trans r0; have g0 := (hB5.frozen (p := ⟨w.heap.size, 0, none⟩) HLR.out.1).trans f0; have a0 := (hB5.cell (p := ⟨w1.heap.size, 0, none⟩) HLR.out.2.1).trans e0; have s1 := (hB5.cell (p := ⟨w.heap.size, 1, none⟩) HLR.out.1).trans r1; have g1 := (hB5.frozen (p := ⟨w.heap.size, 1, none⟩) HLR.out.1).trans f1; have a1 := (hB5.cell (p := ⟨w1.heap.size, 1, none⟩) HLR.out.2.1).trans e1; have s2 := (hB5.cell (p := ⟨w.heap.size, 2, none⟩) HLR.out.1).trans r2; have g2 := (hB5.frozen (p := ⟨w.heap.size, 2, none⟩) HLR.out.1).trans f2; have a2 := (hB5.cell (p := ⟨w1.heap.size, 2, none⟩) HLR.out.2.1).trans e2; have s3 := (hB5.cell (p := ⟨w.heap.size, 3, none⟩) HLR.out.1).trans r3; have g3 := (hB5.frozen (p := ⟨w.heap.size, 3, none⟩) HLR.out.1).trans f3; have a3 := (hB5.cell (p := ⟨w1.heap.size, 3, none⟩) HLR.out.2.1).trans e3; have s4 := (hB5.cell (p := ⟨w.heap.size, 4, none⟩) HLR.out.1).trans r4; have g4 := (hB5.frozen (p := ⟨w.heap.size, 4, none⟩) HLR.out.1).trans f4; have a4 := (hB5.cell (p := ⟨w1.heap.size, 4, none⟩) HLR.out.2.1).trans e4; have s5 := (hB5.cell (p := ⟨w.heap.size, 5, none⟩) HLR.out.1).trans r5; have g5 := (hB5.frozen (p := ⟨w.heap.size, 5, none⟩) HLR.out.1).trans f5; have a5 := (hB5.cell (p := ⟨w1.heap.size, 5, none⟩) HLR.out.2.1).trans e5; have hl5 := Nat.lt_of_lt_of_le HLR.out.1 hB5.size; have hl6 := Nat.lt_of_lt_of_le HLR.out.2.1 hB5.size; have HV5 := Lib.hid (HVR.out.old hB5).p; have HB5 := Lib.hid (HBR.out.trans (hB5.mono HBR.out.size)); clear hB5 r0 r1 r2 r3 r4 r5 f0 f1 f2 f3 f4 f5 e0 e1 e2 e3 e4 e5)
              | (go_at_call 21; refine (HWR.out _ HV5.out).mono ?_; rintro e w6 ⟨rfl, hB6⟩; have t0 := (hB6.cell (p := ⟨w.heap.size, 0, none⟩) hl5).trans s0; have k0 := (hB6.frozen (p := ⟨w.heap.size, 0, none⟩) hl5).trans g0; have b0 := (hB6.cell (p := ⟨w1.heap.size, 0, none⟩) hl6).trans a0; have t1 := (hB6.cell (p := ⟨w.heap.size, 1, none⟩) hl5).trans s1; have k1 := (hB6.frozen (p := ⟨w.heap.size, 1, none⟩) hl5).trans g1; have b1 := (hB6.cell (p := ⟨w1.heap.size, 1, none⟩) hl6).trans a1; have t2 := (hB6.cell (p := ⟨w.heap.size, 2, none⟩) hl5).trans s2; have k2 := (hB6.frozen (p := ⟨w.heap.size, 2, none⟩) hl5).trans g2; have b2 := (hB6.cell (p := ⟨w1.heap.size, 2, none⟩) hl6).trans a2; have t3 := (hB6.cell (p := ⟨w.heap.size, 3, none⟩) hl5).trans s3; have k3 := (hB6.frozen (p := ⟨w.heap.size, 3, none⟩) hl5).trans g3; have b3 := (hB6.cell (p := ⟨w1.heap.size, 3, none⟩) hl6).trans a3; have t4 := (hB6.cell (p := ⟨w.heap.size, 4, none⟩) hl5).trans s4; have k4 := (hB6.frozen (p := ⟨w.heap.size, 4, none⟩) hl5).trans g4; have b4 := (hB6.cell (p := ⟨w1.heap.size, 4, none⟩) hl6).trans a4; have t5 := (hB6.cell (p := ⟨w.heap.size, 5, none⟩) hl5).trans s5; have k5 := (hB6.frozen (p := ⟨w.heap.size, 5, none⟩) hl5).trans g5; have b5 := (hB6.cell (p := ⟨w1.heap.size, 5, none⟩) hl6).trans a5; have HB6 := Lib.hid (HB5.out.trans (hB6.mono HB5.out.size)); clear hB6 s0 s1 s2 s3 s4 s5 g0 g1 g2 g3 g4 g5 a0 a1 a2 a3 a4 a5)
              | fail)
            refine bodyPost_ret (v := .tuple #[.agg #[.int .i64 0, .int .i64 0, .int .i64 0, .int .i64 0, .string ⟨#[]⟩, .string ⟨#[]⟩], .iface 52 (.int .i64 2)]) (by simp [results, Tryz.results11, go_sem, t0, t1, t2, t3, t4, t5]) rfl ⟨by rw [HPP.out]; rfl, ?_⟩
            exact (((((HB6.out.setCell (Nat.le_refl _) _).setCell (Nat.le_refl _) _).setCell (Nat.le_refl _) _).setCell (Nat.le_refl _) _).setCell (Nat.le_refl _) _).setCell (Nat.le_refl _) _
        · have HNZ := Lib.hid hz
          rw [show errV (checkE en) = .iface 52 (.int .i64 (checkE en)) from if_neg hz] at HCK
          have hn : parseS s = none := by rw [HPA.out, if_neg (fun h => hz h.1)]
          have HN0 := Lib.hid hn
          clear hz hn HPA
          generalize checkE en = ck at *
          go_wp2_with (first
            | (go_at_call 20; refine HCK.out.mono ?_; rintro e w5 ⟨rfl, hB5⟩; have s0 := (hB5.cell (p := ⟨w.heap.size, 0, none⟩) HLR.out.1).trans r0; have g0 := (hB5.frozen (p := ⟨w.heap.size, 0, none⟩) HLR.out.1).trans f0; have s1 := (hB5.cell (p := ⟨w.heap.size, 1, none⟩) HLR.out.1).trans r1; have g1 := (hB5.frozen (p := ⟨w.heap.size, 1, none⟩) HLR.out.1).trans f1; have s2 := (hB5.cell (p := ⟨w.heap.size, 2, none⟩) HLR.out.1).trans r2; have g2 := (hB5.frozen (p := ⟨w.heap.size, 2, none⟩) HLR.out.1).trans f2; have s3 := (hB5.cell (p := ⟨w.heap.size, 3, none⟩) HLR.out.1).trans r3; have g3 := (hB5.frozen (p := ⟨w.heap.size, 3, none⟩) HLR.out.1).trans f3; have s4 := (hB5.cell (p := ⟨w.heap.size, 4, none⟩) HLR.out.1).trans r4; have g4 := (hB5.frozen (p := ⟨w.heap.size, 4, none⟩) HLR.out.1).trans f4; have s5 := (hB5.cell (p := ⟨w.heap.size, 5, none⟩) HLR.out.1).trans r5; have g5 := (hB5.frozen (p := ⟨w.heap.size, 5, none⟩) HLR.out.1).trans f5; have HB5 := Lib.hid (HBR.out.trans (hB5.mono HBR.out.size)); clear hB5 r0 r1 r2 r3 r4 r5 f0 f1 f2 f3 f4 f5)
            | fail)
          refine bodyPost_ret (v := .tuple #[.agg #[.int .i64 0, .int .i64 0, .int .i64 0, .int .i64 0, .string ⟨#[]⟩, .string ⟨#[]⟩], .iface 52 (.int .i64 2)]) (by simp [results, Tryz.results11, go_sem, s0, s1, s2, s3, s4, s5]) rfl ⟨by rw [HN0.out]; rfl, ?_⟩
          exact (((((HB5.out.setCell (Nat.le_refl _) _).setCell (Nat.le_refl _) _).setCell (Nat.le_refl _) _).setCell (Nat.le_refl _) _).setCell (Nat.le_refl _) _).setCell (Nat.le_refl _) _
  · have hps : parseS s = none := by
      unfold parseS
      have : entryOf (wordsOf s) = none := by
        match h : wordsOf s, hn with
        | [], _ => rfl
        | [_], _ => rfl
        | [_, _], _ => rfl
        | [_, _, _], _ => rfl
        | [_, _, _, _], _ => rfl
        | [_, _, _, _, _], _ => rfl
        | [_, _, _, _, _, _], hn => exact absurd hn.symm h6
        | _ :: _ :: _ :: _ :: _ :: _ :: _ :: _, _ => rfl
      rw [this]
    rw [hps]
    have hne : ((n : Int) != 6) = true := bne_iff_ne.2 (by omega)
    clear hn hps h6
    simp only [readV, enV, zeroEn]
    go_enter Tryz.func11, Tryz.ntmps11
    go_wp2_with fail
    have hB0 : Below w.heap.size w (w.alloc (.cells #[.int .i64 0, .int .i64 0, .int .i64 0, .int .i64 0, .string ⟨#[]⟩, .string ⟨#[]⟩] 23)) := (Below.refl _ _).alloc (Nat.le_refl _) _
    refine (HSP.out _ (HV.out.old hB0)).mono ?_
    rintro e w1 ⟨rfl, -, hB1, -⟩
    have r0 : w1.cell? ⟨w.heap.size, 0, none⟩ = some (.int .i64 0) := (hB1.cell (p := ⟨w.heap.size, 0, none⟩) (by simp)).trans (by simp)
    have f0 : w1.frozen? ⟨w.heap.size, 0, none⟩ = false := (hB1.frozen (p := ⟨w.heap.size, 0, none⟩) (by simp)).trans (by simp)
    have r1 : w1.cell? ⟨w.heap.size, 1, none⟩ = some (.int .i64 0) := (hB1.cell (p := ⟨w.heap.size, 1, none⟩) (by simp)).trans (by simp)
    have f1 : w1.frozen? ⟨w.heap.size, 1, none⟩ = false := (hB1.frozen (p := ⟨w.heap.size, 1, none⟩) (by simp)).trans (by simp)
    have r2 : w1.cell? ⟨w.heap.size, 2, none⟩ = some (.int .i64 0) := (hB1.cell (p := ⟨w.heap.size, 2, none⟩) (by simp)).trans (by simp)
    have f2 : w1.frozen? ⟨w.heap.size, 2, none⟩ = false := (hB1.frozen (p := ⟨w.heap.size, 2, none⟩) (by simp)).trans (by simp)
    have r3 : w1.cell? ⟨w.heap.size, 3, none⟩ = some (.int .i64 0) := (hB1.cell (p := ⟨w.heap.size, 3, none⟩) (by simp)).trans (by simp)
    have f3 : w1.frozen? ⟨w.heap.size, 3, none⟩ = false := (hB1.frozen (p := ⟨w.heap.size, 3, none⟩) (by simp)).trans (by simp)
    have r4 : w1.cell? ⟨w.heap.size, 4, none⟩ = some (.string ⟨#[]⟩) := (hB1.cell (p := ⟨w.heap.size, 4, none⟩) (by simp)).trans (by simp)
    have f4 : w1.frozen? ⟨w.heap.size, 4, none⟩ = false := (hB1.frozen (p := ⟨w.heap.size, 4, none⟩) (by simp)).trans (by simp)
    have r5 : w1.cell? ⟨w.heap.size, 5, none⟩ = some (.string ⟨#[]⟩) := (hB1.cell (p := ⟨w.heap.size, 5, none⟩) (by simp)).trans (by simp)
    have f5 : w1.frozen? ⟨w.heap.size, 5, none⟩ = false := (hB1.frozen (p := ⟨w.heap.size, 5, none⟩) (by simp)).trans (by simp)
    have HB1 := Lib.hid (hB0.trans (hB1.mono hB0.size))
    clear hB1 hB0
    go_wp2_with fail
    refine bodyPost_ret (v := .tuple #[.agg #[.int .i64 0, .int .i64 0, .int .i64 0, .int .i64 0, .string ⟨#[]⟩, .string ⟨#[]⟩], .iface 52 (.int .i64 2)]) (by simp [results, Tryz.results11, go_sem, r0, r1, r2, r3, r4, r5]) rfl ⟨rfl, ?_⟩
    exact (((((HB1.out.setCell (Nat.le_refl _) _).setCell (Nat.le_refl _) _).setCell (Nat.le_refl _) _).setCell (Nat.le_refl _) _).setCell (Nat.le_refl _) _).setCell (Nat.le_refl _) _
end Go.Proofs.YtcpkikillmmjcaaGreatDoor.LogC
