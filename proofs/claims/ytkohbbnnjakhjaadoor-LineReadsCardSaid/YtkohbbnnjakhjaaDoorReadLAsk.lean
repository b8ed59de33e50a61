/-
  The reference's ReadAsk.
  Conditions: where the bytes lie.
-/
import Derived.Test.YtkohbbnnjakhjaaDoorReadLE
import Derived.Test.YtkohbbnnjakhjaaDoorReadAsk
namespace Go.Proofs.YtkohbbnnjakhjaaDoor.ReadL
open Go.RowKit BA ChunkD ModL LineC ReadC RowsK FieldRows LineM
set_option linter.unusedVariables false
set_option linter.unusedSimpArgs false

def Z0 : Value := .string ⟨#[]⟩
def N0 : Value := .slice none 0 0
/-- The reference's reader at w.heap.size + 1, the request at w.heap.size + 2, the result's cells at w.heap.size. -/
structure AS (w W : World) (v : Value) (b : List Int) (σ : Nat × Nat) (c0 c1 c2 c3 c4 : Value) : Prop where
  rs : RS bad w W (w.heap.size + 1) v b σ
  q : QS W (w.heap.size + 2) c0 c1 c2 c3 c4
  z : QS W w.heap.size Z0 Z0 Z0 N0 N0
theorem AS.go {w W W' : World} {v : Value} {b : List Int} {σ τ : Nat × Nat} {c0 c1 c2 c3 c4 : Value} (h : AS w W v b σ c0 c1 c2 c3 c4) (hR : RS bad w W' (w.heap.size + 1) v b τ) (hM : Mod (fun k => k = w.heap.size + 1) W W') : AS w W' v b τ c0 c1 c2 c3 c4 :=
  ⟨hR, h.q.mod hM (by omega), h.z.mod hM (by omega)⟩
theorem QS.off {W : World} {Q P i : Nat} {c0 c1 c2 c3 c4 : Value} (h : QS W Q c0 c1 c2 c3 c4) (hne : Q ≠ P) (u : Value) : QS (W.setCell ⟨P, i, none⟩ u) Q c0 c1 c2 c3 c4 := h.mod (modX W P i u) hne
theorem AS.bad {w W : World} {v : Value} {b : List Int} {p e : Nat} {c0 c1 c2 c3 c4 : Value} (h : AS w W v b (p, e) c0 c1 c2 c3 c4) {k : Nat} (hk : k ≠ 0) (q : Nat) : AS w (W.setCell ⟨w.heap.size + 1, 2, none⟩ (.int .i64 k)) v b (q, k) c0 c1 c2 c3 c4 :=
  h.go (RS.set2 h.rs hk q) (modX _ _ _ _)
theorem AS.set0 {w W : World} {v : Value} {b : List Int} {σ : Nat × Nat} {c0 c1 c2 c3 c4 : Value} (h : AS w W v b σ c0 c1 c2 c3 c4) (u : Value) : AS w (W.setCell ⟨w.heap.size + 2, 0, none⟩ u) v b σ u c1 c2 c3 c4 :=
  ⟨h.rs.setQ (by omega) (by omega) _ _, h.q.set0 u, QS.off h.z (by omega) u⟩
theorem AS.set1 {w W : World} {v : Value} {b : List Int} {σ : Nat × Nat} {c0 c1 c2 c3 c4 : Value} (h : AS w W v b σ c0 c1 c2 c3 c4) (u : Value) : AS w (W.setCell ⟨w.heap.size + 2, 1, none⟩ u) v b σ c0 u c2 c3 c4 :=
  ⟨h.rs.setQ (by omega) (by omega) _ _, h.q.set1 u, QS.off h.z (by omega) u⟩
theorem AS.set2 {w W : World} {v : Value} {b : List Int} {σ : Nat × Nat} {c0 c1 c2 c3 c4 : Value} (h : AS w W v b σ c0 c1 c2 c3 c4) (u : Value) : AS w (W.setCell ⟨w.heap.size + 2, 2, none⟩ u) v b σ c0 c1 u c3 c4 :=
  ⟨h.rs.setQ (by omega) (by omega) _ _, h.q.set2 u, QS.off h.z (by omega) u⟩
theorem AS.set3 {w W : World} {v : Value} {b : List Int} {σ : Nat × Nat} {c0 c1 c2 c3 c4 : Value} (h : AS w W v b σ c0 c1 c2 c3 c4) (u : Value) : AS w (W.setCell ⟨w.heap.size + 2, 3, none⟩ u) v b σ c0 c1 c2 u c4 :=
  ⟨h.rs.setQ (by omega) (by omega) _ _, h.q.set3 u, QS.off h.z (by omega) u⟩
theorem AS.set4 {w W : World} {v : Value} {b : List Int} {σ : Nat × Nat} {c0 c1 c2 c3 c4 : Value} (h : AS w W v b σ c0 c1 c2 c3 c4) (u : Value) : AS w (W.setCell ⟨w.heap.size + 2, 4, none⟩ u) v b σ c0 c1 c2 c3 u :=
  ⟨h.rs.setQ (by omega) (by omega) _ _, h.q.set4 u, QS.off h.z (by omega) u⟩
theorem AS.start {w : World} {v : Value} {b : List Int} (hb : BytesAt w v b) (hbd : ∀ z ∈ b, 0 ≤ z ∧ z ≤ 255) (hlen : b.length ≤ 140737588355328) :
    AS w (((w.alloc (.cells #[.string ⟨#[]⟩, .string ⟨#[]⟩, .string ⟨#[]⟩, .slice none 0 0, .slice none 0 0] 25)).alloc (.cells #[v, .int .i64 0, .int .i64 0] 48)).alloc (.cells #[.string ⟨#[]⟩, .string ⟨#[]⟩, .string ⟨#[]⟩, .slice none 0 0, .slice none 0 0] 25)) v b (0, 0) Z0 Z0 Z0 N0 N0 := by
  have e1 : (w.alloc (.cells #[.string ⟨#[]⟩, .string ⟨#[]⟩, .string ⟨#[]⟩, .slice none 0 0, .slice none 0 0] 25)).heap.size = w.heap.size + 1 := by simp
  have e2 : ((w.alloc (.cells #[.string ⟨#[]⟩, .string ⟨#[]⟩, .string ⟨#[]⟩, .slice none 0 0, .slice none 0 0] 25)).alloc (.cells #[v, .int .i64 0, .int .i64 0] 48)).heap.size = w.heap.size + 2 := by simp
  generalize h1 : w.alloc (.cells #[.string ⟨#[]⟩, .string ⟨#[]⟩, .string ⟨#[]⟩, .slice none 0 0, .slice none 0 0] 25) = W1 at *
  generalize h2 : W1.alloc (.cells #[v, .int .i64 0, .int .i64 0] 48) = W2 at *
  generalize h3 : W2.alloc (.cells #[.string ⟨#[]⟩, .string ⟨#[]⟩, .string ⟨#[]⟩, .slice none 0 0, .slice none 0 0] 25) = W3 at *
  have B1 : Below w.heap.size w W1 := by rw [← h1]; exact (Below.refl _ _).alloc (Nat.le_refl _) _
  have B2 : Below W1.heap.size W1 W2 := by rw [← h2]; exact (Below.refl _ _).alloc (Nat.le_refl _) _
  have B3 : Below W2.heap.size W2 W3 := by rw [← h3]; exact (Below.refl _ _).alloc (Nat.le_refl _) _
  have zc : ∀ i, W3.cell? ⟨w.heap.size, i, none⟩ = W1.cell? ⟨w.heap.size, i, none⟩ := fun i => (B3.cell (p := ⟨w.heap.size, i, none⟩) (by simp only; omega)).trans (B2.cell (p := ⟨w.heap.size, i, none⟩) (by simp only; omega))
  have zf : ∀ i, W3.frozen? ⟨w.heap.size, i, none⟩ = W1.frozen? ⟨w.heap.size, i, none⟩ := fun i => (B3.frozen (p := ⟨w.heap.size, i, none⟩) (by simp only; omega)).trans (B2.frozen (p := ⟨w.heap.size, i, none⟩) (by simp only; omega))
  have xc : ∀ i, W3.cell? ⟨w.heap.size + 1, i, none⟩ = W2.cell? ⟨W1.heap.size, i, none⟩ := fun i => by rw [← e1]; exact B3.cell (p := ⟨W1.heap.size, i, none⟩) (by simp only; omega)
  have xf : ∀ i, W3.frozen? ⟨w.heap.size + 1, i, none⟩ = W2.frozen? ⟨W1.heap.size, i, none⟩ := fun i => by rw [← e1]; exact B3.frozen (p := ⟨W1.heap.size, i, none⟩) (by simp only; omega)
  have qc : ∀ i, W3.cell? ⟨w.heap.size + 2, i, none⟩ = W3.cell? ⟨W2.heap.size, i, none⟩ := fun i => by rw [← e2]
  have qf : ∀ i, W3.frozen? ⟨w.heap.size + 2, i, none⟩ = W3.frozen? ⟨W2.heap.size, i, none⟩ := fun i => by rw [← e2]
  refine ⟨⟨?_, hb, hbd, hlen, by omega, ⟨?_, ⟨0, by omega, ?_, fun _ => rfl⟩, ?_, ?_, ?_, ?_⟩, fun _ => Nat.zero_le _⟩, ⟨?_, ?_, ?_, ?_, ?_, ?_, ?_, ?_, ?_, ?_⟩, ⟨?_, ?_, ?_, ?_, ?_, ?_, ?_, ?_, ?_, ?_⟩⟩
  · exact (B1.trans (B2.mono B1.size)).trans (B3.mono (Nat.le_trans B1.size B2.size))
  all_goals first | rw [zc, ← h1] | rw [zf, ← h1] | rw [xc, ← h2] | rw [xf, ← h2] | rw [qc, ← h3] | rw [qf, ← h3]
  all_goals first | (simp [Z0, N0]; done) | (simp; rfl)
/-- What the reference's ReadAsk gives. -/
def LRA (b : List Int) (w w' : World) (e : Ending) : Prop :=
  Below w.heap.size w w' ∧ ((ReadS.faultS b (ReadS.askC b).2 = 0 ∧ ∃ (a : Option Addr) (n c : Nat) (a2 : Option Addr) (n2 c2 : Nat), e = .returned (.tuple #[rqV (ReadS.askC b).1 (.slice a n c) (.slice a2 n2 c2), .int .i64 (ReadS.askC b).2.1, .int .i64 0]) ∧ At encF w' (.slice a n c) (ReadS.askC b).1.fields ∧ BytesAt w' (.slice a2 n2 c2) (ReadS.askC b).1.body) ∨
    (ReadS.faultS b (ReadS.askC b).2 ≠ 0 ∧ e = .returned (.tuple #[.agg #[.string ⟨#[]⟩, .string ⟨#[]⟩, .string ⟨#[]⟩, .slice none 0 0, .slice none 0 0], .int .i64 0, .int .i64 (ReadS.faultS b (ReadS.askC b).2)])))
/-- Both ways of a need, as one test. -/
def nd (e : Nat) (s : ByteArray) : Bool := decide (e = 0) && s.toList.isEmpty
theorem nd_true {e p : Nat} {s : ByteArray} (h : nd e s = true) : ReadS.needS (!s.toList.isEmpty) (p, e) = (p, 2) := by
  unfold nd at h
  rw [Bool.and_eq_true, decide_eq_true_eq] at h
  exact if_pos ⟨h.1, by rw [h.2]; rfl⟩
theorem nd_false {e p : Nat} {s : ByteArray} (h : nd e s = false) : ReadS.needS (!s.toList.isEmpty) (p, e) = (p, e) := by
  unfold nd at h
  rw [Bool.and_eq_false_iff, decide_eq_false_iff_not] at h
  refine if_neg ?_
  rintro ⟨h1, h2⟩
  rcases h with h | h
  · exact h h1
  · rw [h] at h2; cases h2
theorem emp_lit {s : ByteArray} {t : Bool} (h : s.toList.isEmpty = t) : (s.toList == []) = t := by rw [← h]; cases s.toList <;> rfl
set_option maxRecDepth 100000 in
set_option maxHeartbeats 16000000 in
theorem rreadAsk_any (v : Value) (b : List Int) (w : World) (hb : BytesAt w v b) (hbd : ∀ z ∈ b, 0 ≤ z ∧ z ≤ 255) (hlen : b.length ≤ 140737588355328) :
    Calls Tryd.prog 5 #[v] w fun e w' => LRA b w w' e := by
  obtain ⟨a0, cap, rfl, -, -, -, -⟩ := hb.open
  have HA0 := Lib.hid (AS.start hb hbd hlen)
  have HLEN := Lib.hid hlen
  obtain ⟨A, hA⟩ : ∃ A, ReadS.askC b = A := ⟨_, rfl⟩
  obtain ⟨m, σ1, h1⟩ : ∃ m σ1, ReadS.utS b 32 tokB (0, 0) = (m, σ1) := ⟨_, _, rfl⟩
  obtain ⟨σ2, h2⟩ : ∃ τ, ReadS.needS (!m.toList.isEmpty) σ1 = τ := ⟨_, rfl⟩
  obtain ⟨σ3, h3⟩ : ∃ τ, ReadS.mtS b [32] σ2 = τ := ⟨_, rfl⟩
  obtain ⟨pt, σ4, h4⟩ : ∃ m σ1, ReadS.utS b 32 ReadS.visB σ3 = (m, σ1) := ⟨_, _, rfl⟩
  obtain ⟨σ5, h5⟩ : ∃ τ, ReadS.needS (!pt.toList.isEmpty) σ4 = τ := ⟨_, rfl⟩
  obtain ⟨σ6, h6⟩ : ∃ τ, ReadS.mtS b [32, 69, 68, 71, 69, 47, 49, 13, 10, 104, 111, 115, 116] σ5 = τ := ⟨_, rfl⟩
  obtain ⟨ho, σ7, h7⟩ : ∃ m σ1, ReadS.valS b σ6 = (m, σ1) := ⟨_, _, rfl⟩
  obtain ⟨σ8, h8⟩ : ∃ τ, ReadS.needS (!ho.toList.isEmpty) σ7 = τ := ⟨_, rfl⟩
  obtain ⟨D, hD⟩ : ∃ D, ReadS.hdS b 1 false 42 [] σ8 = D := ⟨_, rfl⟩
  obtain ⟨Y, hY⟩ : ∃ Y, (if 0 < D.n then ReadS.bodyS b D.n.toNat D.σ else ([], D.σ)) = Y := ⟨_, rfl⟩
  have hask : A = (⟨m, pt, ho, D.l, Y.1⟩, Y.2) := by
    rw [← hA]
    unfold ReadS.askC
    simp only [h1, h2, h3, h4, h5, h6, h7, h8, hD, hY]
  have HC1 := Lib.hid (fun W (hW : RS bad w W (w.heap.size + 1) (.slice a0 b.length cap) b (0, 0)) => luntil_token hW)
  simp only [h1] at HC1
  have HC3 := Lib.hid (fun W (hW : RS bad w W (w.heap.size + 1) (.slice a0 b.length cap) b σ2) => lmatch_any hW ⟨#[32]⟩ (by decide))
  have s3 : sB ⟨#[32]⟩ = [32] := rfl
  simp only [s3, h3] at HC3
  have HC4 := Lib.hid (fun W (hW : RS bad w W (w.heap.size + 1) (.slice a0 b.length cap) b σ3) => luntil_visible hW)
  simp only [h4] at HC4
  have HC6 := Lib.hid (fun W (hW : RS bad w W (w.heap.size + 1) (.slice a0 b.length cap) b σ5) => lmatch_any hW ⟨#[32, 69, 68, 71, 69, 47, 49, 13, 10, 104, 111, 115, 116]⟩ (by decide))
  have s6 : sB ⟨#[32, 69, 68, 71, 69, 47, 49, 13, 10, 104, 111, 115, 116]⟩ = [32, 69, 68, 71, 69, 47, 49, 13, 10, 104, 111, 115, 116] := rfl
  simp only [s6, h6] at HC6
  have HC7 := Lib.hid (fun W (hW : RS bad w W (w.heap.size + 1) (.slice a0 b.length cap) b σ6) => lvalue_any hW)
  simp only [h7] at HC7
  have HC9 := Lib.hid (fun W (hW : RS bad w W (w.heap.size + 1) (.slice a0 b.length cap) b σ8) => lhead_false hW 1 (by decide))
  have c1 : ((1 : Nat) : Int) = 1 := rfl
  simp only [hD, c1] at HC9
  have HC10 := Lib.hid (fun W (hW : RS bad w W (w.heap.size + 1) (.slice a0 b.length cap) b D.σ) k hk => lbody_any hW k hk)
  have HC11 := Lib.hid (fun W (hW : RS bad w W (w.heap.size + 1) (.slice a0 b.length cap) b Y.2) => lfault_any hW)
  obtain ⟨F, hF⟩ : ∃ F, ReadS.faultS b Y.2 = F := ⟨_, rfl⟩
  have hYS : D.σ.2 ≠ 0 → Y = ([], D.σ) := fun h => by
    rw [← hY]
    split
    · exact if_pos h
    · rfl
  have hFY : F = 0 → Y.2.2 = 0 := fun h => by
    rw [← hF] at h
    unfold ReadS.faultS at h
    split at h
    · cases h
    · exact h
  have HFY := Lib.hid hFY
  have HYS := Lib.hid hYS
  have HASK := Lib.hid hask
  have HAA := Lib.hid hA
  have HFF := Lib.hid hF
  have HY := Lib.hid hY
  have HN2 := Lib.hid h2
  have HN5 := Lib.hid h5
  have HN8 := Lib.hid h8
  rw [hF] at HC11
  clear c1 hA h1 h2 h3 h4 h5 h6 h7 h8 hD hY hask s3 s6 hb hbd hF hYS hFY hlen
  unfold Z0 N0 at HA0
  go_enter Tryd.func5, Tryd.ntmps5
  go_upto_region 3 with fail
  generalize ((w.alloc (.cells #[.string ⟨#[]⟩, .string ⟨#[]⟩, .string ⟨#[]⟩, .slice none 0 0, .slice none 0 0] 25)).alloc (.cells #[.slice a0 b.length cap, .int .i64 0, .int .i64 0] 48)).alloc (.cells #[.string ⟨#[]⟩, .string ⟨#[]⟩, .string ⟨#[]⟩, .slice none 0 0, .slice none 0 0] 25) = W0 at *
  obtain ⟨q0, q1, q2, q3, q4, y0, y1, y2, y3, y4⟩ := HA0.out.q
  go_upto_region 4 with (first
    | (go_at_call 13; (with_reducible refine (HC1.out _ HA0.out.rs).mono ?_); rintro e w1 ⟨rfl, hR, hM⟩; have Hw1 := Lib.hid (HA0.out.go hR hM); obtain ⟨q0, q1, q2, q3, q4, y0, y1, y2, y3, y4⟩ := Hw1.out.q; clear hR hM))
  have HA1 := Lib.hid (Hw1.out.set0 (.string m))
  clear HA0 Hw1 HC1 q0 q1 q2 q3 q4 y0 y1 y2 y3 y4
  generalize w1.setCell ⟨w.heap.size + 2, 0, none⟩ (.string m) = W1 at *
  obtain ⟨q0, q1, q2, q3, q4, y0, y1, y2, y3, y4⟩ := HA1.out.q
  obtain ⟨p1, e1⟩ := σ1
  obtain ⟨d0, ⟨d1, d1q, -⟩, d2, f0, f1, f2⟩ := RS.cellsB HA1.out.rs
  obtain ⟨B1, hB1⟩ : ∃ B, nd e1 m = B := ⟨_, rfl⟩
  have HB1 := Lib.hid hB1
  clear hB1
  go_cut [26] from 11 (fun c wx => c = .bool B1 ∧ W1 = wx)
  case first => as_aux_lemma =>
    by_cases h0 : e1 = 0
    · subst h0
      rcases t0 : m.toList.isEmpty with _ | _
      · have t1 := emp_lit t0
        have hb : Hid (B1 = false) := by show B1 = false; rw [← HB1.out]; unfold nd; rw [t0]; rfl
        go_wp2
        go_meet
        case rel => exact ⟨by rw [hb.out], rfl⟩
      · have t1 := emp_lit t0
        have hb : Hid (B1 = true) := by show B1 = true; rw [← HB1.out]; unfold nd; rw [t0]; rfl
        go_wp2
        go_meet
        case rel => exact ⟨by rw [hb.out], rfl⟩
    · have t2 := cast_eq0 h0
      have hb : Hid (B1 = false) := by show B1 = false; rw [← HB1.out]; unfold nd; rw [decide_eq_false h0]; rfl
      clear h0
      go_wp2
      go_meet
      case rel => exact ⟨by rw [hb.out], rfl⟩
  case rest =>
  obtain ⟨rfl, rfl⟩ := hcut
  go_upto_if 26 with fail
  go_cut [] from 11 (fun wx => Hid (AS w wx (.slice a0 b.length cap) b σ2 (.string m) (.string ⟨#[]⟩) (.string ⟨#[]⟩) (.slice none 0 0) (.slice none 0 0)))
  case first => as_aux_lemma =>
    rcases B1 with _ | _
    · go_wp2
      go_meet
      case rel => have hh := HN2.out; rw [nd_false HB1.out] at hh; rw [← hh]; exact HA1.out
    · go_wp2
      go_meet
      case rel => have hh := HN2.out; rw [nd_true HB1.out] at hh; rw [← hh]; exact HA1.out.bad (k := 2) (by decide) _
  case rest =>
  have HM1 : Hid (AS w wc (.slice a0 b.length cap) b σ2 (.string m) (.string ⟨#[]⟩) (.string ⟨#[]⟩) (.slice none 0 0) (.slice none 0 0)) := hcut
  clear hcut HB1 HA1 q0 q1 q2 q3 q4 y0 y1 y2 y3 y4 d0 d1q d2 f0 f1 f2
  obtain ⟨Wa, hWa⟩ : ∃ Wa : World, Wa = wc := ⟨_, rfl⟩
  subst hWa
  obtain ⟨q0, q1, q2, q3, q4, y0, y1, y2, y3, y4⟩ := HM1.out.q
  go_upto_region 8 with (first
    | (go_at_call 14; (with_reducible refine (HC3.out _ HM1.out.rs).mono ?_); rintro e w3 ⟨rfl, hR, hM⟩; have Hw3 := Lib.hid (HM1.out.go hR hM); obtain ⟨q0, q1, q2, q3, q4, y0, y1, y2, y3, y4⟩ := Hw3.out.q; clear hR hM)
    | (go_at_call 13; (with_reducible refine (HC4.out _ Hw3.out.rs).mono ?_); rintro e w4 ⟨rfl, hR, hM⟩; have Hw4 := Lib.hid (Hw3.out.go hR hM); obtain ⟨q0, q1, q2, q3, q4, y0, y1, y2, y3, y4⟩ := Hw4.out.q; clear hR hM))
  have HA2 := Lib.hid (Hw4.out.set1 (.string pt))
  clear HM1 Hw3 Hw4 HC3 HC4 q0 q1 q2 q3 q4 y0 y1 y2 y3 y4
  generalize w4.setCell ⟨w.heap.size + 2, 1, none⟩ (.string pt) = W2 at *
  obtain ⟨q0, q1, q2, q3, q4, y0, y1, y2, y3, y4⟩ := HA2.out.q
  obtain ⟨p2, e2⟩ := σ4
  obtain ⟨d0, ⟨d1, d1q, -⟩, d2, f0, f1, f2⟩ := RS.cellsB HA2.out.rs
  obtain ⟨B2, hB2⟩ : ∃ B, nd e2 pt = B := ⟨_, rfl⟩
  have HB2 := Lib.hid hB2
  clear hB2
  go_cut [44] from 11 (fun c wx => c = .bool B2 ∧ W2 = wx)
  case first => as_aux_lemma =>
    by_cases h0 : e2 = 0
    · subst h0
      rcases t0 : pt.toList.isEmpty with _ | _
      · have t1 := emp_lit t0
        have hb : Hid (B2 = false) := by show B2 = false; rw [← HB2.out]; unfold nd; rw [t0]; rfl
        go_wp2
        go_meet
        case rel => exact ⟨by rw [hb.out], rfl⟩
      · have t1 := emp_lit t0
        have hb : Hid (B2 = true) := by show B2 = true; rw [← HB2.out]; unfold nd; rw [t0]; rfl
        go_wp2
        go_meet
        case rel => exact ⟨by rw [hb.out], rfl⟩
    · have t2 := cast_eq0 h0
      have hb : Hid (B2 = false) := by show B2 = false; rw [← HB2.out]; unfold nd; rw [decide_eq_false h0]; rfl
      clear h0
      go_wp2
      go_meet
      case rel => exact ⟨by rw [hb.out], rfl⟩
  case rest =>
  obtain ⟨rfl, rfl⟩ := hcut
  go_upto_if 44 with fail
  go_cut [] from 11 (fun wx => Hid (AS w wx (.slice a0 b.length cap) b σ5 (.string m) (.string pt) (.string ⟨#[]⟩) (.slice none 0 0) (.slice none 0 0)))
  case first => as_aux_lemma =>
    rcases B2 with _ | _
    · go_wp2
      go_meet
      case rel => have hh := HN5.out; rw [nd_false HB2.out] at hh; rw [← hh]; exact HA2.out
    · go_wp2
      go_meet
      case rel => have hh := HN5.out; rw [nd_true HB2.out] at hh; rw [← hh]; exact HA2.out.bad (k := 2) (by decide) _
  case rest =>
  have HM2 : Hid (AS w wc (.slice a0 b.length cap) b σ5 (.string m) (.string pt) (.string ⟨#[]⟩) (.slice none 0 0) (.slice none 0 0)) := hcut
  clear hcut HB2 HA2 q0 q1 q2 q3 q4 y0 y1 y2 y3 y4 d0 d1q d2 f0 f1 f2
  obtain ⟨Wb, hWb⟩ : ∃ Wb : World, Wb = wc := ⟨_, rfl⟩
  subst hWb
  obtain ⟨q0, q1, q2, q3, q4, y0, y1, y2, y3, y4⟩ := HM2.out.q
  go_upto_region 12 with (first
    | (go_at_call 14; (with_reducible refine (HC6.out _ HM2.out.rs).mono ?_); rintro e w6 ⟨rfl, hR, hM⟩; have Hw6 := Lib.hid (HM2.out.go hR hM); obtain ⟨q0, q1, q2, q3, q4, y0, y1, y2, y3, y4⟩ := Hw6.out.q; clear hR hM)
    | (go_at_call 15; (with_reducible refine (HC7.out _ Hw6.out.rs).mono ?_); rintro e w7 ⟨rfl, hR, hM⟩; have Hw7 := Lib.hid (Hw6.out.go hR hM); obtain ⟨q0, q1, q2, q3, q4, y0, y1, y2, y3, y4⟩ := Hw7.out.q; clear hR hM))
  have HA3 := Lib.hid (Hw7.out.set2 (.string ho))
  clear HM2 Hw6 Hw7 HC6 HC7 q0 q1 q2 q3 q4 y0 y1 y2 y3 y4
  generalize w7.setCell ⟨w.heap.size + 2, 2, none⟩ (.string ho) = W3 at *
  obtain ⟨q0, q1, q2, q3, q4, y0, y1, y2, y3, y4⟩ := HA3.out.q
  obtain ⟨p3, e3⟩ := σ7
  obtain ⟨d0, ⟨d1, d1q, -⟩, d2, f0, f1, f2⟩ := RS.cellsB HA3.out.rs
  obtain ⟨B3, hB3⟩ : ∃ B, nd e3 ho = B := ⟨_, rfl⟩
  have HB3 := Lib.hid hB3
  clear hB3
  go_cut [62] from 11 (fun c wx => c = .bool B3 ∧ W3 = wx)
  case first => as_aux_lemma =>
    by_cases h0 : e3 = 0
    · subst h0
      rcases t0 : ho.toList.isEmpty with _ | _
      · have t1 := emp_lit t0
        have hb : Hid (B3 = false) := by show B3 = false; rw [← HB3.out]; unfold nd; rw [t0]; rfl
        go_wp2
        go_meet
        case rel => exact ⟨by rw [hb.out], rfl⟩
      · have t1 := emp_lit t0
        have hb : Hid (B3 = true) := by show B3 = true; rw [← HB3.out]; unfold nd; rw [t0]; rfl
        go_wp2
        go_meet
        case rel => exact ⟨by rw [hb.out], rfl⟩
    · have t2 := cast_eq0 h0
      have hb : Hid (B3 = false) := by show B3 = false; rw [← HB3.out]; unfold nd; rw [decide_eq_false h0]; rfl
      clear h0
      go_wp2
      go_meet
      case rel => exact ⟨by rw [hb.out], rfl⟩
  case rest =>
  obtain ⟨rfl, rfl⟩ := hcut
  go_upto_if 62 with fail
  go_cut [] from 11 (fun wx => Hid (AS w wx (.slice a0 b.length cap) b σ8 (.string m) (.string pt) (.string ho) (.slice none 0 0) (.slice none 0 0)))
  case first => as_aux_lemma =>
    rcases B3 with _ | _
    · go_wp2
      go_meet
      case rel => have hh := HN8.out; rw [nd_false HB3.out] at hh; rw [← hh]; exact HA3.out
    · go_wp2
      go_meet
      case rel => have hh := HN8.out; rw [nd_true HB3.out] at hh; rw [← hh]; exact HA3.out.bad (k := 2) (by decide) _
  case rest =>
  have HM3 : Hid (AS w wc (.slice a0 b.length cap) b σ8 (.string m) (.string pt) (.string ho) (.slice none 0 0) (.slice none 0 0)) := hcut
  clear hcut HB3 HA3 q0 q1 q2 q3 q4 y0 y1 y2 y3 y4 d0 d1q d2 f0 f1 f2
  obtain ⟨Wd, hWd⟩ : ∃ Wd : World, Wd = wc := ⟨_, rfl⟩
  subst hWd
  obtain ⟨q0, q1, q2, q3, q4, y0, y1, y2, y3, y4⟩ := HM3.out.q
  have HBD : Hid (w.heap.size + 2 < Wd.heap.size) := HM3.out.q.lt
  go_upto_region 16 with (first
    | (go_at_call 16; (with_reducible refine (HC9.out _ HM3.out.rs).mono ?_); rintro e w9 ⟨⟨a, n, c, k, pc, rfl, hh⟩, hR, hM⟩; have Hw9 := Lib.hid (HM3.out.go hR hM); have HH := Lib.hid hh; obtain ⟨q0, q1, q2, q3, q4, y0, y1, y2, y3, y4⟩ := Hw9.out.q; clear hR hM hh))
  have HA5 := Lib.hid (Hw9.out.set3 (.slice a n c))
  have hkk := And.intro HH.out.1 HH.out.2.1
  have HOW : Hid (D.σ.2 = 0 → Own encF (w9.setCell ⟨w.heap.size + 2, 3, none⟩ (.slice a n c)) Wd.heap.size 78 (.slice a n c) D.l ∧ k = D.n) := fun h => ⟨own_setQ (HH.out.2.2 h).1 HBD.out _, (HH.out.2.2 h).2.1⟩
  clear HM3 Hw9 HC9 HH q0 q1 q2 q3 q4 y0 y1 y2 y3 y4
  generalize w9.setCell ⟨w.heap.size + 2, 3, none⟩ (.slice a n c) = W5 at *
  obtain ⟨q0, q1, q2, q3, q4, y0, y1, y2, y3, y4⟩ := HA5.out.q
  go_upto_if 75 with fail
  go_cut [] from 11 (fun wx => Hid (∃ (a2 : Option Addr) (n2 c2 : Nat), AS w wx (.slice a0 b.length cap) b Y.2 (.string m) (.string pt) (.string ho) (.slice a n c) (.slice a2 n2 c2) ∧ BytesAt w (.slice a2 n2 c2) Y.1 ∧ (D.σ.2 = 0 → Own encF wx Wd.heap.size 78 (.slice a n c) D.l)))
  case first => as_aux_lemma =>
    by_cases hk : 0 < k
    · obtain ⟨kn, rfl⟩ : ∃ kn : Nat, k = kn := ⟨k.toNat, by omega⟩
      have HKN : Hid (kn ≤ 140737588355328) := by show kn ≤ _; omega
      have HKP := Lib.hid hk
      go_wp2_with (first
        | (go_at_call 17; (with_reducible refine (HC10.out _ HA5.out.rs kn HKN.out).mono ?_); rintro e w10 ⟨⟨a2, n2, c2, rfl, hby⟩, hR, hM⟩; have Hw10 := Lib.hid (HA5.out.go hR hM); have HBY := Lib.hid hby; have HMM := Lib.hid hM; obtain ⟨q0, q1, q2, q3, q4, y0, y1, y2, y3, y4⟩ := Hw10.out.q; clear hR hM hby))
      go_meet
      case rel =>
        have hY2 : ReadS.bodyS b kn D.σ = Y := by
          by_cases hd : D.σ.2 = 0
          · have h1 := (HOW.out hd).2
            rw [← HY.out, ← h1, if_pos HKP.out, Int.toNat_natCast]
          · rw [HYS.out hd]; exact if_pos hd
        have h3 := Hw10.out.set4 (.slice a2 n2 c2)
        rw [hY2] at h3
        have h4 := HBY.out
        rw [hY2] at h4
        refine ⟨a2, n2, c2, h3, h4, fun hd => ?_⟩
        have h5 := (HOW.out hd).1
        exact own_setQ (h5.of_block fun k hk => HMM.out.block k (h5.lt k hk).2 (fun e => by have h1 := (h5.lt k hk).1; have h2 := HBD.out; omega)) HBD.out _
    · have HKP := Lib.hid hk
      go_wp2
      go_meet
      case rel =>
        have hY2 : Y = ([], D.σ) := by
          by_cases hd : D.σ.2 = 0
          · have h1 := (HOW.out hd).2
            rw [← HY.out, ← h1, if_neg (fun h => absurd h (by have := HKP.out; omega))]
          · exact HYS.out hd
        exact ⟨none, 0, 0, by rw [hY2]; exact HA5.out, by rw [hY2]; exact bytes_nil _, fun hd => (HOW.out hd).1⟩
  case rest =>
  obtain ⟨a2, n2, c2, hAS, hBY, hOW⟩ := hcut.out
  have HA6 := Lib.hid hAS
  have HBY := Lib.hid hBY
  have HOW2 := Lib.hid hOW
  obtain ⟨We, hWe⟩ : ∃ We : World, We = wc := ⟨_, rfl⟩
  subst hWe
  clear hcut hAS hBY hOW HA5 HOW q0 q1 q2 q3 q4 y0 y1 y2 y3 y4 HC10
  obtain ⟨q0, q1, q2, q3, q4, y0, y1, y2, y3, y4⟩ := HA6.out.q
  obtain ⟨r0, r1, r2, r3, r4, x0, x1, x2, x3, x4⟩ := HA6.out.z
  by_cases hF0 : F = 0
  · subst hF0
    obtain ⟨yb, p10, e10⟩ := Y
    have he : e10 = 0 := HFY.out rfl
    subst he
    obtain ⟨d0, d1, d2, f0, f1, f2⟩ := RS.cells0 HA6.out.rs
    have HD0 : Hid (D.σ.2 = 0) := by
      show D.σ.2 = 0
      rcases Nat.eq_zero_or_pos D.σ.2 with h | h
      · exact h
      · have := HYS.out (by omega)
        injection this with h1 h2
        rw [← h2]
    go_upto_region 21 with (first
      | (go_at_call 18; (with_reducible refine (HC11.out _ HA6.out.rs).mono ?_); rintro e w11 ⟨rfl, rfl⟩))
    go_region
    go_wp2
    refine bodyPost_ret (v := .tuple #[.agg #[.string m, .string pt, .string ho, .slice a n c, .slice a2 n2 c2], .int .i64 p10, .int .i64 0]) (by simp [results, Tryd.results5, go_sem, r0, r1, r2, r3, r4]) rfl ⟨?_, .inl ⟨by rw [HAA.out, HASK.out]; exact HFF.out, ?_⟩⟩
    · exact bel_set5 HA6.out.rs.bel (Nat.le_refl _) 1 _ _ _ _ _
    · rw [HAA.out, HASK.out]
      exact ⟨a, n, c, _, _, _, rfl, own_set5 (HOW2.out HD0.out) (by have := HBD.out; omega) 1 _ _ _ _ _, HBY.out.below (bel_set5 HA6.out.rs.bel (Nat.le_refl _) 1 _ _ _ _ _)⟩
  · have HF0 := Lib.hid hF0
    have t9 := cast_eq0 hF0
    have t8 : ((F : Int) != 0) = true := by rw [bne, t9]; rfl
    clear hF0
    go_wp2_with (first
      | (go_at_call 18; (with_reducible refine (HC11.out _ HA6.out.rs).mono ?_); rintro e w11 ⟨rfl, rfl⟩))
    refine bodyPost_ret (v := .tuple #[.agg #[.string ⟨#[]⟩, .string ⟨#[]⟩, .string ⟨#[]⟩, .slice none 0 0, .slice none 0 0], .int .i64 0, .int .i64 F]) (by simp [results, Tryd.results5, go_sem, r0, r1, r2, r3, r4]) rfl ⟨?_, .inr ⟨by rw [HAA.out, HASK.out]; simp only; rw [HFF.out]; exact HF0.out, by rw [HAA.out, HASK.out]; simp only; rw [HFF.out]⟩⟩
    exact (((((HA6.out.rs.bel.setCell (Nat.le_refl _) _).setCell (Nat.le_refl _) _).setCell (Nat.le_refl _) _).setCell (Nat.le_refl _) _).setCell (Nat.le_refl _) _)
end Go.Proofs.YtkohbbnnjakhjaaDoor.ReadL
