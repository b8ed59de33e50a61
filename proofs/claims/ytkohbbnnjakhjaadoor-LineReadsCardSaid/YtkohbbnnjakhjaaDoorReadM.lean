/-
  Package line's reader: where it stands, what is wrong; chunk.Match, and the reader's need and match.
  Conditions: where the bytes lie.
-/
import Derived.Test.YtkohbbnnjakhjaaDoorReadS
import Derived.Test.YtkohbbnnjakhjaaDoorBytesAt
import Derived.Test.YtkohbbnnjakhjaaDoorMod
import Derived.Deep.QuietTactic
import Derived.BigQuiet
import Derived.StillTailTactics
import Derived.Deep.RegionHeld3
import Derived.Deep.RegionWith
import Derived.IntWalk
import Derived.Deep.Draws
import Derived.Lib.Hide
namespace Go.Proofs.YtkohbbnnjakhjaaDoor.ReadC
open Go.RowKit BA ChunkD ModL
set_option linter.unusedVariables false
set_option linter.unusedSimpArgs false

/-- A text's bytes. -/
def sB (s : ByteArray) : List Int := s.data.toList.map fun c => (c.toNat : Int)
theorem sB_len (s : ByteArray) : (sB s).length = s.size := by cases s; simp [sB, ByteArray.size]
theorem sB_drop (s : ByteArray) (k : Nat) (h : k < s.size) : (sB s).drop k = (s[k].toNat : Int) :: (sB s).drop (k + 1) := by
  rw [List.drop_eq_getElem_cons (by rw [sB_len]; exact h)]
  congr 1
  simp only [sB, List.getElem_map]
  rfl
theorem sidx (x : ByteArray) (i : Nat) (h : i < x.size) (W : World) : (Instr.index 9 (.string x) (.int .i64 (i : Int))).run Tryd.prog W = .ok (.int .u8 (x[i].toNat : Int)) W := by
  rw [run_index_string _ _ _ _ _ Tryd.underlying9, dif_pos ⟨by omega, by omega⟩]
  rfl
/-- A fault as an error. -/
def errN (e : Nat) : Value := if e = 0 then .nilIface else .iface 63 (.int .i64 e)
theorem errN0 : errN 0 = .nilIface := rfl
theorem errNk {e : Nat} (h : e ≠ 0) : errN e = .iface 63 (.int .i64 e) := by unfold errN; rw [if_neg h]
theorem below_drewN {B : Nat} {w w' : World} (h : Below B w w') (n : Nat) : Below B w (w'.drewN n) := ⟨h.os, h.tape, h.output, h.size, h.block⟩
set_option maxRecDepth 100000 in
set_option maxHeartbeats 2000000 in
theorem matchA_any (s : ByteArray) (a : Option Addr) (cap p : Nat) (b : List Int) (w : World) (hb : BytesAt w (.slice a b.length cap) b) (hp : p ≤ 140737588355328) (hs : s.size ≤ 1000) :
    Calls Tryd.prog 41 #[.slice a b.length cap, .int .i64 p, .string s] w fun e w' => e = .returned (.tuple #[.int .i64 (mt b (sB s) p).1, errN (mt b (sB s) p).2]) ∧ ∃ n, w' = w.drewN n := by
  obtain ⟨a0, c0, e0, hc1, hc2, hnil, hel⟩ := hb.open
  simp only [Value.slice.injEq] at e0
  obtain ⟨rfl, _, rfl⟩ := e0
  obtain ⟨R, hR⟩ : ∃ R, mt b (sB s) p = R := ⟨_, rfl⟩
  rw [hR]
  have HR := Lib.hid hR
  have HEL := Lib.hid hel
  obtain ⟨L, hL⟩ : ∃ L, b.length = L := ⟨_, rfl⟩
  rw [hL] at hc1 ⊢
  have HL := Lib.hid hL
  clear hR hb hL hel hnil
  obtain ⟨S, hS⟩ : ∃ S, s.size = S := ⟨_, rfl⟩
  have HS := Lib.hid hS
  have hss : s.size = S := hS
  rw [hS] at hs
  go_enter Tryd.func41, Tryd.ntmps41
  go_wp2
  go_loopw [11] (fun iv wr => ∃ k : Nat, iv = .int .i64 k ∧ k ≤ S ∧ Hid ((∃ n, wr = w.drewN n) ∧ mt b ((sB s).drop k) (p + k) = R)) (fun iv _ => S - (intOf iv).toNat)
  case atStart => exact ⟨0, rfl, Nat.zero_le _, ⟨0, rfl⟩, HR.out⟩
  case round =>
    obtain ⟨k, rfl, hk, HK⟩ := hrel
    by_cases hlt : k < S
    · have hix := fun W => sidx s k (by rw [HS.out]; exact hlt) W
      have h := HK.out.2
      rw [sB_drop s k (by rw [HS.out]; exact hlt)] at h
      generalize s[k]'(by rw [HS.out]; exact hlt) = c at *
      by_cases h1 : L ≤ p + k
      · rw [mt_short (by rw [HL.out]; exact h1)] at h
        have HH := Lib.hid h
        have h1' : ((L : Nat) : Int) ≤ (p : Int) + (k : Int) := by omega
        clear h h1
        go_wp2
        go_ret2
        exact ⟨by rw [← HH.out]; rfl, HK.out.1⟩
      · obtain ⟨bb, off, rfl, hbb, hcell⟩ := HEL.out (p + k) (by rw [HL.out]; omega)
        obtain ⟨z, hzk⟩ : ∃ z, b.getD (p + k) 0 = z := ⟨_, rfl⟩
        rw [hzk] at hcell
        have h1' : (p : Int) + (k : Int) < (L : Int) := by omega
        have h2' : (0 : Int) ≤ (p : Int) + (k : Int) := by omega
        have hw : IntKind.i64.wrap ((p : Int) + (k : Int)) = (p : Int) + (k : Int) := IntWalk.i64_in _ (by omega)
        have hnat : ((p : Int) + (k : Int)).toNat = p + k := by omega
        obtain ⟨n, hn⟩ := HK.out.1
        subst hn
        have hi0 : (0 : Int) ≤ (k : Int) := by omega
        have hi1 : (k : Int) < (S : Int) := by omega
        by_cases h3 : z = (c.toNat : Int)
        · rw [mt_step (by rw [HL.out]; omega) (by rw [hzk]; exact h3)] at h
          have HH := Lib.hid h
          have hq : (z != (c.toNat : Int)) = false := by rw [h3]; simp
          clear h h1 hzk h3 HK
          go_wp2
          go_quiet (fail)
          go_wp2
          go_roundw
          case rel => exact ⟨k + 1, by go_num, by omega, ⟨_, rfl⟩, by rw [← Nat.add_assoc]; exact HH.out⟩
          case measure => simp [intOf]; omega
        · rw [mt_bad (by rw [HL.out]; omega) (by rw [hzk]; exact h3)] at h
          have HH := Lib.hid h
          have hq : (z != (c.toNat : Int)) = true := by simpa using h3
          clear h h1 hzk h3 HK
          go_wp2
          go_quiet (fail)
          go_wp2
          go_ret2
          exact ⟨by rw [← HH.out]; rfl, _, rfl⟩
    · obtain rfl : k = S := by omega
      have h := HK.out.2
      rw [List.drop_of_length_le (by rw [sB_len, HS.out]; omega)] at h
      have HH := Lib.hid h
      clear h
      go_wp2
      go_ret2
      exact ⟨by rw [← HH.out]; rfl, HK.out.1⟩
/-- The reader at block X goes over b, whose slice is v: its place, its fault. -/
structure Rd (en : Nat → Value) (w : World) (X : Nat) (v : Value) (σ : Nat × Nat) : Prop where
  c0 : w.cell? ⟨X, 0, none⟩ = some v
  c1 : ∃ q : Nat, q ≤ 140737588355328 ∧ w.cell? ⟨X, 1, none⟩ = some (.int .i64 q) ∧ (σ.2 = 0 → q = σ.1)
  c2 : w.cell? ⟨X, 2, none⟩ = some (en σ.2)
  f0 : w.frozen? ⟨X, 0, none⟩ = false
  f1 : w.frozen? ⟨X, 1, none⟩ = false
  f2 : w.frozen? ⟨X, 2, none⟩ = false
theorem Rd.lt {en : Nat → Value} {w : World} {X : Nat} {v : Value} {σ : Nat × Nat} (h : Rd en w X v σ) : X < w.heap.size := block_lt_of_cell h.c0
/-- What was there when the reader was made, and the reader. -/
structure RS (en : Nat → Value) (w0 w : World) (X : Nat) (v : Value) (b : List Int) (σ : Nat × Nat) : Prop where
  bel : Below w0.heap.size w0 w
  by0 : BytesAt w0 v b
  bd : ∀ z ∈ b, 0 ≤ z ∧ z ≤ 255
  len : b.length ≤ 140737588355328
  new : w0.heap.size ≤ X
  rd : Rd en w X v σ
  ok : σ.2 = 0 → σ.1 ≤ b.length
theorem RS.bytes {en : Nat → Value} {w0 w : World} {X : Nat} {v : Value} {b : List Int} {σ : Nat × Nat} (h : RS en w0 w X v b σ) : BytesAt w v b := h.by0.below h.bel
/-- A step that writes to the reader alone. -/
theorem RS.step {en : Nat → Value} {w0 w w' : World} {X : Nat} {v : Value} {b : List Int} {σ τ : Nat × Nat} (h : RS en w0 w X v b σ) (hM : Mod (fun k => k = X) w w') (hr : Rd en w' X v τ) (hk : τ.2 = 0 → τ.1 ≤ b.length) : RS en w0 w' X v b τ :=
  ⟨⟨hM.os.trans h.bel.os, hM.tape.trans h.bel.tape, hM.output.trans h.bel.output, Nat.le_trans h.bel.size hM.size, fun k hk' => (hM.block k (Nat.lt_of_lt_of_le hk' h.bel.size) (by have := h.new; omega)).trans (h.bel.block k hk')⟩, h.by0, h.bd, h.len, h.new, hr, hk⟩
/-- A step that writes elsewhere, to blocks that are newer than w0. -/
theorem RS.other {en : Nat → Value} {w0 w w' : World} {X : Nat} {v : Value} {b : List Int} {σ : Nat × Nat} {S : Nat → Prop} (h : RS en w0 w X v b σ) (hM : Mod S w w') (hX : ¬ S X) (hS : ∀ k, S k → w0.heap.size ≤ k) : RS en w0 w' X v b σ :=
  have hlt := h.rd.lt
  ⟨⟨hM.os.trans h.bel.os, hM.tape.trans h.bel.tape, hM.output.trans h.bel.output, Nat.le_trans h.bel.size hM.size, fun k hk' => (hM.block k (Nat.lt_of_lt_of_le hk' h.bel.size) (fun hs => by have := hS k hs; omega)).trans (h.bel.block k hk')⟩, h.by0, h.bd, h.len, h.new,
   ⟨(hM.cell (p := ⟨X, 0, none⟩) hlt hX).trans h.rd.c0, by obtain ⟨q, q1, q2, q3⟩ := h.rd.c1; exact ⟨q, q1, (hM.cell (p := ⟨X, 1, none⟩) hlt hX).trans q2, q3⟩, (hM.cell (p := ⟨X, 2, none⟩) hlt hX).trans h.rd.c2,
    (hM.frozen (p := ⟨X, 0, none⟩) hlt hX).trans h.rd.f0, (hM.frozen (p := ⟨X, 1, none⟩) hlt hX).trans h.rd.f1, (hM.frozen (p := ⟨X, 2, none⟩) hlt hX).trans h.rd.f2⟩, h.ok⟩
theorem RS.below {en : Nat → Value} {w0 w w' : World} {X : Nat} {v : Value} {b : List Int} {σ : Nat × Nat} (h : RS en w0 w X v b σ) (hB : Below w.heap.size w w') : RS en w0 w' X v b σ :=
  h.other (S := fun k => w.heap.size ≤ k) (Mod.ofBelow hB fun _ _ h => h) (by have := h.rd.lt; omega) (fun k hk => Nat.le_trans h.bel.size hk)
/-- The fault is written. -/
theorem Rd.fault {en : Nat → Value} {w : World} {X : Nat} {v : Value} {σ : Nat × Nat} (h : Rd en w X v σ) {e : Nat} (he : e ≠ 0) (p : Nat) : Rd en (w.setCell ⟨X, 2, none⟩ (en e)) X v (p, e) := by
  obtain ⟨c0, ⟨q, q1, q2, q3⟩, c2, f0, f1, f2⟩ := h
  exact ⟨(World.cell?_setCell_other _ _ _ _ (by simp)).trans c0, ⟨q, q1, (World.cell?_setCell_other _ _ _ _ (by simp)).trans q2, fun h => absurd h he⟩, World.cell?_setCell_same _ _ _ c2, by simpa using f0, by simpa using f1, by simpa using f2⟩
/-- The place is written. -/
theorem Rd.move {en : Nat → Value} {w : World} {X : Nat} {v : Value} {σ : Nat × Nat} (h : Rd en w X v σ) {p : Nat} (hp : p ≤ 140737588355328) (h0 : σ.2 = 0) : Rd en (w.setCell ⟨X, 1, none⟩ (.int .i64 p)) X v (p, 0) := by
  obtain ⟨c0, ⟨q, q1, q2, q3⟩, c2, f0, f1, f2⟩ := h
  exact ⟨(World.cell?_setCell_other _ _ _ _ (by simp)).trans c0, ⟨p, hp, World.cell?_setCell_same _ _ _ q2, fun _ => rfl⟩, by rw [h0] at c2; exact (World.cell?_setCell_other _ _ _ _ (by simp)).trans c2, by simpa using f0, by simpa using f1, by simpa using f2⟩
theorem Rd.drewN {en : Nat → Value} {w : World} {X : Nat} {v : Value} {σ : Nat × Nat} (h : Rd en w X v σ) (n : Nat) : Rd en (w.drewN n) X v σ := by
  obtain ⟨c0, ⟨q, q1, q2, q3⟩, c2, f0, f1, f2⟩ := h
  exact ⟨by simpa using c0, ⟨q, q1, by simpa using q2, q3⟩, by simpa using c2, by simpa using f0, by simpa using f1, by simpa using f2⟩
/-- Place and fault are written, in either order. -/
theorem Rd.both {en : Nat → Value} {w : World} {X : Nat} {v : Value} {σ : Nat × Nat} (h : Rd en w X v σ) {p e : Nat} (hp : p ≤ 140737588355328) :
    Rd en ((w.setCell ⟨X, 1, none⟩ (.int .i64 p)).setCell ⟨X, 2, none⟩ (en e)) X v (p, e) ∧ Rd en ((w.setCell ⟨X, 2, none⟩ (en e)).setCell ⟨X, 1, none⟩ (.int .i64 p)) X v (p, e) := by
  obtain ⟨c0, ⟨q, q1, q2, q3⟩, c2, f0, f1, f2⟩ := h
  constructor
  · exact ⟨(World.cell?_setCell_other _ _ _ _ (by simp)).trans ((World.cell?_setCell_other _ _ _ _ (by simp)).trans c0), ⟨p, hp, (World.cell?_setCell_other _ _ _ _ (by simp)).trans (World.cell?_setCell_same _ _ _ q2), fun _ => rfl⟩, World.cell?_setCell_same _ _ _ ((World.cell?_setCell_other _ _ _ _ (by simp)).trans c2), by simpa using f0, by simpa using f1, by simpa using f2⟩
  · exact ⟨(World.cell?_setCell_other _ _ _ _ (by simp)).trans ((World.cell?_setCell_other _ _ _ _ (by simp)).trans c0), ⟨p, hp, World.cell?_setCell_same _ _ _ ((World.cell?_setCell_other _ _ _ _ (by simp)).trans q2), fun _ => rfl⟩, (World.cell?_setCell_other _ _ _ _ (by simp)).trans (World.cell?_setCell_same _ _ _ c2), by simpa using f0, by simpa using f1, by simpa using f2⟩
theorem modX (w : World) (X o : Nat) (u : Value) : Mod (fun k => k = X) w (w.setCell ⟨X, o, none⟩ u) := Mod.setCell (S := fun k => k = X) (Mod.refl _ w) (p := ⟨X, o, none⟩) (fun _ => rfl) u
theorem mod2 (w : World) (n X o1 : Nat) (u1 : Value) (o2 : Nat) (u2 : Value) : Mod (fun k => k = X) w (((w.drewN n).setCell ⟨X, o1, none⟩ u1).setCell ⟨X, o2, none⟩ u2) := by
  have h0 : Mod (fun k => k = X) w (w.drewN n) := ⟨rfl, rfl, rfl, Nat.le_refl _, fun _ _ _ => rfl⟩
  have h1 : Mod (fun k => k = X) w ((w.drewN n).setCell ⟨X, o1, none⟩ u1) := h0.setCell (fun _ => rfl) u1
  exact h1.setCell (fun _ => rfl) u2
theorem mod1 (w : World) (n X o1 : Nat) (u1 : Value) : Mod (fun k => k = X) w ((w.drewN n).setCell ⟨X, o1, none⟩ u1) := by
  have h0 : Mod (fun k => k = X) w (w.drewN n) := ⟨rfl, rfl, rfl, Nat.le_refl _, fun _ _ _ => rfl⟩
  exact h0.setCell (fun _ => rfl) u1
theorem mod_drewN {S : Nat → Prop} {w w' : World} (h : Mod S w w') (n : Nat) : Mod S w (w'.drewN n) := ⟨h.os, h.tape, h.output, h.size, h.block⟩
set_option maxHeartbeats 1000000 in
theorem need_any {w0 w : World} {X : Nat} {v : Value} {b : List Int} {σ : Nat × Nat} (h : RS errN w0 w X v b σ) (ok : Bool) :
    Calls Tryd.prog 21 #[.pointer (some ⟨X, 0, none⟩), .bool ok] w fun e w' => e = .returned (.tuple #[]) ∧ RS errN w0 w' X v b (ReadS.needS ok σ) ∧ Mod (fun k => k = X) w w' := by
  have H := Lib.hid h
  obtain ⟨c0, ⟨q, q1, q2, q3⟩, c2, f0, f1, f2⟩ := id h.rd
  clear h
  obtain ⟨p, e⟩ := σ
  simp only at c2 q3 ⊢
  by_cases h0 : e = 0
  · subst h0
    rw [errN0] at c2
    rcases ok with _ | _
    · have Q3 := Lib.hid q3
      clear q3
      go_enter Tryd.func21, Tryd.ntmps21
      go_wp2
      go_end0
      exact ⟨rfl, H.out.step (modX _ _ _ _) (H.out.rd.fault (e := 2) (by decide) p) (by intro h; cases h), modX _ _ _ _⟩
    · have Q3 := Lib.hid q3
      clear q3
      go_enter Tryd.func21, Tryd.ntmps21
      go_wp2
      go_end0
      exact ⟨rfl, by rw [show ReadS.needS true (p, 0) = (p, 0) from if_neg (by simp)]; exact H.out, Mod.refl _ _⟩
  · rw [errNk h0] at c2
    have E := Lib.hid h0
    clear h0 q3
    go_enter Tryd.func21, Tryd.ntmps21
    go_wp2
    go_end0
    exact ⟨rfl, by rw [show ReadS.needS ok (p, e) = (p, e) from if_neg (fun h => E.out h.1)]; exact H.out, Mod.refl _ _⟩
set_option maxRecDepth 100000 in
set_option maxHeartbeats 2000000 in
theorem rmt_any {w0 w : World} {X : Nat} {v : Value} {b : List Int} {σ : Nat × Nat} (h : RS errN w0 w X v b σ) (s : ByteArray) (hs : s.size ≤ 1000) :
    Calls Tryd.prog 22 #[.pointer (some ⟨X, 0, none⟩), .string s] w fun e w' => e = .returned (.tuple #[]) ∧ RS errN w0 w' X v b (ReadS.mtS b (sB s) σ) ∧ Mod (fun k => k = X) w w' := by
  have H := Lib.hid h
  obtain ⟨c0, ⟨q, q1, q2, q3⟩, c2, f0, f1, f2⟩ := id h.rd
  obtain ⟨p, e⟩ := σ
  simp only at c2 q3
  by_cases h0 : e = 0
  · subst h0
    have hpq : q = p := q3 rfl
    subst hpq
    obtain ⟨a, cap, rfl, _, _, _, _⟩ := h.by0.open
    have HM := Lib.hid (fun W (hW : BytesAt W (.slice a b.length cap) b) => matchA_any s a cap q b W hW q1 hs)
    have HB := Lib.hid h.bytes
    have HR : Hid (ReadS.mtS b (sB s) (q, 0) = mt b (sB s) q) := if_pos rfl
    have HOK : Hid ((mt b (sB s) q).2 = 0 → (mt b (sB s) q).1 ≤ b.length) := by
      have := ReadS.mtS_ok (b := b) (s := sB s) (σ := (q, 0)) h.ok
      rw [HR.out] at this
      exact this
    have HL := Lib.hid h.len
    have HML : Hid ((mt b (sB s) q).1 ≤ 140737588355328) := by
      show (mt b (sB s) q).1 ≤ 140737588355328
      by_cases hh : (mt b (sB s) q).2 = 0
      · have := HOK.out hh; have := HL.out; omega
      · rw [mt_zero _ _ hh]; omega
    rw [HR.out]
    rw [errN0] at c2
    generalize mt b (sB s) q = r at *
    obtain ⟨m, e1⟩ := r
    obtain ⟨L, hL⟩ : ∃ L, b.length = L := ⟨_, rfl⟩
    rw [hL] at c0 HM HB
    clear h q3 hL
    have HBd : Hid (BytesAt w.drew (.slice a L cap) b) := HB.out.below ((Below.refl _ _).drew)
    by_cases h1 : e1 = 0
    · subst h1
      have HM2 := Lib.hid (fun W hW => (HM.out W hW).mono (R' := fun e w' => e = .returned (.tuple #[.int .i64 m, .nilIface]) ∧ ∃ n, w' = W.drewN n) (fun e w' h => h))
      have HQ := Lib.hid q1
      have HB1 := Lib.hid (fun n => (H.out.rd.drewN n).both (p := m) (e := 0) HML.out)
      rw [errN0] at HB1
      clear q1
      go_enter Tryd.func22, Tryd.ntmps22
      go_wp2
      go_region_with (go_at_call 41; (with_reducible refine (HM2.out _ HBd.out).mono ?_); rintro e w1 ⟨rfl, n, rfl⟩)
      all_goals (go_wp2)
      all_goals (go_end0)
      all_goals first
        | exact ⟨rfl, H.out.step (mod2 _ _ _ _ _ _ _) (HB1.out _).1 (fun _ => HOK.out trivial), mod2 _ _ _ _ _ _ _⟩
        | exact ⟨rfl, H.out.step (mod2 _ _ _ _ _ _ _) (HB1.out _).2 (fun _ => HOK.out trivial), mod2 _ _ _ _ _ _ _⟩
    · have HM2 := Lib.hid (fun W hW => (HM.out W hW).mono (R' := fun e w' => e = .returned (.tuple #[.int .i64 m, .iface 63 (.int .i64 e1)]) ∧ ∃ n, w' = W.drewN n) (fun e w' h => ⟨by rw [h.1, errNk h1], h.2⟩))
      have HQ := Lib.hid q1
      have H1 := Lib.hid h1
      have HB1 := Lib.hid (fun n => (H.out.rd.drewN n).both (p := m) (e := e1) HML.out)
      rw [errNk h1] at HB1
      clear q1 h1
      go_enter Tryd.func22, Tryd.ntmps22
      go_wp2
      go_region_with (go_at_call 41; (with_reducible refine (HM2.out _ HBd.out).mono ?_); rintro e w1 ⟨rfl, n, rfl⟩)
      all_goals (go_wp2)
      all_goals (go_end0)
      all_goals first
        | exact ⟨rfl, H.out.step (mod2 _ _ _ _ _ _ _) (HB1.out _).1 HOK.out, mod2 _ _ _ _ _ _ _⟩
        | exact ⟨rfl, H.out.step (mod2 _ _ _ _ _ _ _) (HB1.out _).2 HOK.out, mod2 _ _ _ _ _ _ _⟩
  · rw [errNk h0] at c2
    have E := Lib.hid h0
    clear h0 q3
    go_enter Tryd.func22, Tryd.ntmps22
    go_wp2
    go_end0
    exact ⟨rfl, by rw [show ReadS.mtS b (sB s) (p, e) = (p, e) from if_neg E.out]; exact H.out, Mod.refl _ _⟩
end Go.Proofs.YtkohbbnnjakhjaaDoor.ReadC
