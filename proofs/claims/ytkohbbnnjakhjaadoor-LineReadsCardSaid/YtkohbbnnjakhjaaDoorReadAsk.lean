/-
  line.ReadAsk over this seat's translation.
  Conditions: where the bytes lie.
-/
import Derived.Test.YtkohbbnnjakhjaaDoorReadF
import Derived.RegionTactic
import Derived.ChangeAlike
namespace Go.Proofs.YtkohbbnnjakhjaaDoor.ReadC
open Go.RowKit BA ChunkD ModL LineC RowsK FieldRows LineM
set_option linter.unusedVariables false
set_option linter.unusedSimpArgs false

/-- A request's cells at block Q. -/
structure QS (W : World) (Q : Nat) (c0 c1 c2 c3 c4 : Value) : Prop where
  g0 : W.cell? ⟨Q, 0, none⟩ = some c0
  g1 : W.cell? ⟨Q, 1, none⟩ = some c1
  g2 : W.cell? ⟨Q, 2, none⟩ = some c2
  g3 : W.cell? ⟨Q, 3, none⟩ = some c3
  g4 : W.cell? ⟨Q, 4, none⟩ = some c4
  z0 : W.frozen? ⟨Q, 0, none⟩ = false
  z1 : W.frozen? ⟨Q, 1, none⟩ = false
  z2 : W.frozen? ⟨Q, 2, none⟩ = false
  z3 : W.frozen? ⟨Q, 3, none⟩ = false
  z4 : W.frozen? ⟨Q, 4, none⟩ = false
theorem QS.lt {W : World} {Q : Nat} {c0 c1 c2 c3 c4 : Value} (h : QS W Q c0 c1 c2 c3 c4) : Q < W.heap.size := block_lt_of_cell h.g0
theorem QS.mod {W W' : World} {Q X : Nat} {c0 c1 c2 c3 c4 : Value} (h : QS W Q c0 c1 c2 c3 c4) (hM : Mod (fun k => k = X) W W') (hne : Q ≠ X) : QS W' Q c0 c1 c2 c3 c4 :=
  have hl := h.lt
  ⟨(hM.cell (p := ⟨Q, 0, none⟩) hl hne).trans h.g0, (hM.cell (p := ⟨Q, 1, none⟩) hl hne).trans h.g1, (hM.cell (p := ⟨Q, 2, none⟩) hl hne).trans h.g2, (hM.cell (p := ⟨Q, 3, none⟩) hl hne).trans h.g3, (hM.cell (p := ⟨Q, 4, none⟩) hl hne).trans h.g4,
   (hM.frozen (p := ⟨Q, 0, none⟩) hl hne).trans h.z0, (hM.frozen (p := ⟨Q, 1, none⟩) hl hne).trans h.z1, (hM.frozen (p := ⟨Q, 2, none⟩) hl hne).trans h.z2, (hM.frozen (p := ⟨Q, 3, none⟩) hl hne).trans h.z3, (hM.frozen (p := ⟨Q, 4, none⟩) hl hne).trans h.z4⟩

theorem frozen_set (w : World) (a p : Addr) (v : Value) : (w.setCell a v).frozen? p = w.frozen? p := by simp

theorem QS.set0 {W : World} {Q : Nat} {c0 c1 c2 c3 c4 : Value} (h : QS W Q c0 c1 c2 c3 c4) (u : Value) : QS (W.setCell ⟨Q, 0, none⟩ u) Q u c1 c2 c3 c4 :=
  ⟨World.cell?_setCell_same _ _ _ h.g0, (World.cell?_setCell_other _ _ _ _ (by simp)).trans h.g1, (World.cell?_setCell_other _ _ _ _ (by simp)).trans h.g2, (World.cell?_setCell_other _ _ _ _ (by simp)).trans h.g3, (World.cell?_setCell_other _ _ _ _ (by simp)).trans h.g4, by rw [frozen_set]; exact h.z0, by rw [frozen_set]; exact h.z1, by rw [frozen_set]; exact h.z2, by rw [frozen_set]; exact h.z3, by rw [frozen_set]; exact h.z4⟩

theorem QS.set1 {W : World} {Q : Nat} {c0 c1 c2 c3 c4 : Value} (h : QS W Q c0 c1 c2 c3 c4) (u : Value) : QS (W.setCell ⟨Q, 1, none⟩ u) Q c0 u c2 c3 c4 :=
  ⟨(World.cell?_setCell_other _ _ _ _ (by simp)).trans h.g0, World.cell?_setCell_same _ _ _ h.g1, (World.cell?_setCell_other _ _ _ _ (by simp)).trans h.g2, (World.cell?_setCell_other _ _ _ _ (by simp)).trans h.g3, (World.cell?_setCell_other _ _ _ _ (by simp)).trans h.g4, by rw [frozen_set]; exact h.z0, by rw [frozen_set]; exact h.z1, by rw [frozen_set]; exact h.z2, by rw [frozen_set]; exact h.z3, by rw [frozen_set]; exact h.z4⟩

theorem QS.set2 {W : World} {Q : Nat} {c0 c1 c2 c3 c4 : Value} (h : QS W Q c0 c1 c2 c3 c4) (u : Value) : QS (W.setCell ⟨Q, 2, none⟩ u) Q c0 c1 u c3 c4 :=
  ⟨(World.cell?_setCell_other _ _ _ _ (by simp)).trans h.g0, (World.cell?_setCell_other _ _ _ _ (by simp)).trans h.g1, World.cell?_setCell_same _ _ _ h.g2, (World.cell?_setCell_other _ _ _ _ (by simp)).trans h.g3, (World.cell?_setCell_other _ _ _ _ (by simp)).trans h.g4, by rw [frozen_set]; exact h.z0, by rw [frozen_set]; exact h.z1, by rw [frozen_set]; exact h.z2, by rw [frozen_set]; exact h.z3, by rw [frozen_set]; exact h.z4⟩

theorem QS.set3 {W : World} {Q : Nat} {c0 c1 c2 c3 c4 : Value} (h : QS W Q c0 c1 c2 c3 c4) (u : Value) : QS (W.setCell ⟨Q, 3, none⟩ u) Q c0 c1 c2 u c4 :=
  ⟨(World.cell?_setCell_other _ _ _ _ (by simp)).trans h.g0, (World.cell?_setCell_other _ _ _ _ (by simp)).trans h.g1, (World.cell?_setCell_other _ _ _ _ (by simp)).trans h.g2, World.cell?_setCell_same _ _ _ h.g3, (World.cell?_setCell_other _ _ _ _ (by simp)).trans h.g4, by rw [frozen_set]; exact h.z0, by rw [frozen_set]; exact h.z1, by rw [frozen_set]; exact h.z2, by rw [frozen_set]; exact h.z3, by rw [frozen_set]; exact h.z4⟩

theorem QS.set4 {W : World} {Q : Nat} {c0 c1 c2 c3 c4 : Value} (h : QS W Q c0 c1 c2 c3 c4) (u : Value) : QS (W.setCell ⟨Q, 4, none⟩ u) Q c0 c1 c2 c3 u :=
  ⟨(World.cell?_setCell_other _ _ _ _ (by simp)).trans h.g0, (World.cell?_setCell_other _ _ _ _ (by simp)).trans h.g1, (World.cell?_setCell_other _ _ _ _ (by simp)).trans h.g2, (World.cell?_setCell_other _ _ _ _ (by simp)).trans h.g3, World.cell?_setCell_same _ _ _ h.g4, by rw [frozen_set]; exact h.z0, by rw [frozen_set]; exact h.z1, by rw [frozen_set]; exact h.z2, by rw [frozen_set]; exact h.z3, by rw [frozen_set]; exact h.z4⟩

theorem RS.setQ {en : Nat → Value} {w0 w : World} {X : Nat} {v : Value} {b : List Int} {σ : Nat × Nat} (h : RS en w0 w X v b σ) {Q : Nat} (hQ : w0.heap.size ≤ Q) (hne : Q ≠ X) (i : Nat) (u : Value) : RS en w0 (w.setCell ⟨Q, i, none⟩ u) X v b σ :=
  h.other (S := fun k => k = Q) (modX w Q i u) (fun e => hne e.symm) (fun k hk => by rw [hk]; exact hQ)
/-- The reader as it is made. -/
theorem RS.start {w : World} {v : Value} {b : List Int} (hb : BytesAt w v b) (hbd : ∀ z ∈ b, 0 ≤ z ∧ z ≤ 255) (hlen : b.length ≤ 140737588355328) (o : Obj) :
    RS errN w ((w.alloc o).alloc (.cells #[v, .int .i64 0, .nilIface] 58)) (w.heap.size + 1) v b (0, 0) := by
  have hsz : (w.alloc o).heap.size = w.heap.size + 1 := by simp
  refine ⟨((Below.refl _ _).alloc (Nat.le_refl _) _).alloc (by rw [hsz]; omega) _, hb, hbd, hlen, by omega, ⟨?_, ⟨0, by omega, ?_, fun _ => rfl⟩, ?_, ?_, ?_, ?_⟩, fun _ => Nat.zero_le _⟩
  all_goals rw [← hsz]
  all_goals simp [errN]
theorem own_drewN {W : World} {B : Nat} {v : Value} {l : List Fld} (h : Own encF W B 78 v l) (n : Nat) : Own encF (W.drewN n) B 78 v l := h.of_block fun _ _ => rfl
theorem own_setQ {W : World} {B Q i : Nat} {v : Value} {l : List Fld} (h : Own encF W B 78 v l) (hQ : Q < B) (u : Value) : Own encF (W.setCell ⟨Q, i, none⟩ u) B 78 v l := h.setCell _ _ (fun e => by have := (h.lt _ e).1; simp only at this; omega)
theorem own_set5 {W : World} {B Q : Nat} {v : Value} {l : List Fld} (h : Own encF W B 78 v l) (hQ : Q < B) (n : Nat) (u0 u1 u2 u3 u4 : Value) : At encF ((((((W.drewN n).setCell ⟨Q, 0, none⟩ u0).setCell ⟨Q, 1, none⟩ u1).setCell ⟨Q, 2, none⟩ u2).setCell ⟨Q, 3, none⟩ u3).setCell ⟨Q, 4, none⟩ u4) v l :=
  (own_setQ (own_setQ (own_setQ (own_setQ (own_setQ (own_drewN h n) hQ u0) hQ u1) hQ u2) hQ u3) hQ u4).at_
theorem byte_drewN {W : World} {B : Nat} {v : Value} {l : List Int} (h : BytesL.Own W B v l) (n : Nat) : BytesL.Own (W.drewN n) B v l := h.belowOf (B := W.heap.size) (below_drewN (Below.refl _ _) n) (fun k hk => (World.ownsRow.lt h k hk).2)
theorem byte_set5 {W : World} {B Q : Nat} {v : Value} {l : List Int} (h : BytesL.Own W B v l) (hQ : Q < B) (n : Nat) (u0 u1 u2 u3 u4 : Value) : BytesAt ((((((W.drewN n).setCell ⟨Q, 0, none⟩ u0).setCell ⟨Q, 1, none⟩ u1).setCell ⟨Q, 2, none⟩ u2).setCell ⟨Q, 3, none⟩ u3).setCell ⟨Q, 4, none⟩ u4) v l :=
  BytesAt.of_own ((((((byte_drewN h n).setLow _ hQ u0).setLow _ hQ u1).setLow _ hQ u2).setLow _ hQ u3).setLow _ hQ u4)
theorem bel_set5 {w W : World} {Q : Nat} (h : Below w.heap.size w W) (hQ : w.heap.size ≤ Q) (n : Nat) (u0 u1 u2 u3 u4 : Value) : Below w.heap.size w ((((((W.drewN n).setCell ⟨Q, 0, none⟩ u0).setCell ⟨Q, 1, none⟩ u1).setCell ⟨Q, 2, none⟩ u2).setCell ⟨Q, 3, none⟩ u3).setCell ⟨Q, 4, none⟩ u4) :=
  (((((below_drewN h n).setCell hQ _).setCell hQ _).setCell hQ _).setCell hQ _).setCell hQ _
/-- What ReadAsk gives. -/
def RA (b : List Int) (w w' : World) (e : Ending) : Prop :=
  Below w.heap.size w w' ∧ ((ReadS.faultS b (ReadS.askC b).2 = 0 ∧ ∃ (a : Option Addr) (n c : Nat) (a2 : Option Addr) (n2 c2 : Nat), e = .returned (.tuple #[rqV (ReadS.askC b).1 (.slice a n c) (.slice a2 n2 c2), .int .i64 (ReadS.askC b).2.1, .nilIface]) ∧ At encF w' (.slice a n c) (ReadS.askC b).1.fields ∧ BytesAt w' (.slice a2 n2 c2) (ReadS.askC b).1.body) ∨
    (ReadS.faultS b (ReadS.askC b).2 ≠ 0 ∧ e = .returned (.tuple #[.agg #[.string ⟨#[]⟩, .string ⟨#[]⟩, .string ⟨#[]⟩, .slice none 0 0, .slice none 0 0], .int .i64 0, errN (ReadS.faultS b (ReadS.askC b).2)])))
set_option maxRecDepth 100000 in
set_option maxHeartbeats 16000000 in
theorem readAsk_any (v : Value) (b : List Int) (w : World) (hb : BytesAt w v b) (hbd : ∀ z ∈ b, 0 ≤ z ∧ z ≤ 255) (hlen : b.length ≤ 140737588355328) :
    Calls Tryd.prog 6 #[v] w fun e w' => RA b w w' e := by
  obtain ⟨a0, cap, rfl, _, _, _, _⟩ := hb.open
  have HR0 := Lib.hid (RS.start hb hbd hlen (.cells #[.string ⟨#[]⟩, .string ⟨#[]⟩, .string ⟨#[]⟩, .slice none 0 0, .slice none 0 0] 25))
  have HQ0 : Hid (QS ((w.alloc (.cells #[.string ⟨#[]⟩, .string ⟨#[]⟩, .string ⟨#[]⟩, .slice none 0 0, .slice none 0 0] 25)).alloc (.cells #[.slice a0 b.length cap, .int .i64 0, .nilIface] 58)) w.heap.size (.string ⟨#[]⟩) (.string ⟨#[]⟩) (.string ⟨#[]⟩) (.slice none 0 0) (.slice none 0 0)) := by
    constructor <;> simp
  have hne : w.heap.size ≠ w.heap.size + 1 := by omega
  have HNE := Lib.hid hne
  obtain ⟨Q, hQ⟩ : ∃ Q, Q = w.heap.size := ⟨_, rfl⟩
  obtain ⟨m, σ1, h1⟩ : ∃ m σ1, ReadS.utS b 32 tokB (0, 0) = (m, σ1) := ⟨_, _, rfl⟩
  have HC1 := Lib.hid (fun W (hW : RS errN w W (w.heap.size + 1) (.slice a0 b.length cap) b (0, 0)) => until_token hW)
  simp only [h1] at HC1
  obtain ⟨σ2, h2⟩ : ∃ τ, ReadS.needS (!m.toList.isEmpty) σ1 = τ := ⟨_, rfl⟩
  have HC2 := Lib.hid (fun W (hW : RS errN w W (w.heap.size + 1) (.slice a0 b.length cap) b σ1) => need_any hW (!m.toList.isEmpty))
  simp only [h2] at HC2
  obtain ⟨σ3, h3⟩ : ∃ τ, ReadS.mtS b [32] σ2 = τ := ⟨_, rfl⟩
  have HC3 := Lib.hid (fun W (hW : RS errN w W (w.heap.size + 1) (.slice a0 b.length cap) b σ2) => rmt_any hW ⟨#[32]⟩ (by decide))
  have s3 : sB ⟨#[32]⟩ = [32] := rfl
  simp only [s3, h3] at HC3
  obtain ⟨pt, σ4, h4⟩ : ∃ m σ1, ReadS.utS b 32 ReadS.visB σ3 = (m, σ1) := ⟨_, _, rfl⟩
  have HC4 := Lib.hid (fun W (hW : RS errN w W (w.heap.size + 1) (.slice a0 b.length cap) b σ3) => until_visible hW)
  simp only [h4] at HC4
  obtain ⟨σ5, h5⟩ : ∃ τ, ReadS.needS (!pt.toList.isEmpty) σ4 = τ := ⟨_, rfl⟩
  have HC5 := Lib.hid (fun W (hW : RS errN w W (w.heap.size + 1) (.slice a0 b.length cap) b σ4) => need_any hW (!pt.toList.isEmpty))
  simp only [h5] at HC5
  obtain ⟨σ6, h6⟩ : ∃ τ, ReadS.mtS b [32, 69, 68, 71, 69, 47, 49, 13, 10, 104, 111, 115, 116] σ5 = τ := ⟨_, rfl⟩
  have HC6 := Lib.hid (fun W (hW : RS errN w W (w.heap.size + 1) (.slice a0 b.length cap) b σ5) => rmt_any hW ⟨#[32, 69, 68, 71, 69, 47, 49, 13, 10, 104, 111, 115, 116]⟩ (by decide))
  have s6 : sB ⟨#[32, 69, 68, 71, 69, 47, 49, 13, 10, 104, 111, 115, 116]⟩ = [32, 69, 68, 71, 69, 47, 49, 13, 10, 104, 111, 115, 116] := rfl
  simp only [s6, h6] at HC6
  obtain ⟨ho, σ7, h7⟩ : ∃ m σ1, ReadS.valS b σ6 = (m, σ1) := ⟨_, _, rfl⟩
  have HC7 := Lib.hid (fun W (hW : RS errN w W (w.heap.size + 1) (.slice a0 b.length cap) b σ6) => value_any hW)
  simp only [h7] at HC7
  obtain ⟨σ8, h8⟩ : ∃ τ, ReadS.needS (!ho.toList.isEmpty) σ7 = τ := ⟨_, rfl⟩
  have HC8 := Lib.hid (fun W (hW : RS errN w W (w.heap.size + 1) (.slice a0 b.length cap) b σ7) => need_any hW (!ho.toList.isEmpty))
  simp only [h8] at HC8
  obtain ⟨D, hD⟩ : ∃ D, ReadS.hdS b 1 false 42 [] σ8 = D := ⟨_, rfl⟩
  have HC9 := Lib.hid (fun W (hW : RS errN w W (w.heap.size + 1) (.slice a0 b.length cap) b σ8) => head_false hW 1 (by decide))
  have c1 : ((1 : Nat) : Int) = 1 := rfl
  simp only [hD, c1] at HC9
  clear c1
  have hask : ReadS.askC b = (⟨m, pt, ho, D.l, (if 0 < D.n then ReadS.bodyS b D.n.toNat D.σ else ([], D.σ)).1⟩, (if 0 < D.n then ReadS.bodyS b D.n.toNat D.σ else ([], D.σ)).2) := by
    unfold ReadS.askC
    simp only [h1, h2, h3, h4, h5, h6, h7, h8, hD]
  clear h1 h2 h3 h4 h5 h6 h7 h8 hD s3 s6 hb hbd
  by_cases hs : D.σ.2 = 0
  · obtain ⟨dn, hdn⟩ : ∃ dn, D.n = dn := ⟨_, rfl⟩
    rw [hdn] at hask
    have HC9 := Lib.hid (fun W hW => (HC9.out W hW).mono (R' := fun e w' => (∃ (a : Option Addr) (n c : Nat) (k : Bool), e = .returned (.tuple #[.slice a n c, .int .i64 dn, .bool k]) ∧ Own encF w' W.heap.size 78 (.slice a n c) D.l ∧ dn ≤ 100000) ∧ RS errN w w' (w.heap.size + 1) (.slice a0 b.length cap) b D.σ ∧ Mod (fun k => k = w.heap.size + 1) W w') (by
      rintro e w' ⟨⟨a, n, c, m, k, he, hh⟩, h1, h2⟩
      have hm := (hh.2.2 hs).2.1
      have h3 := hh.2.1
      rw [hdn] at hm
      subst hm
      exact ⟨⟨a, n, c, k, he, (hh.2.2 hs).1, h3⟩, h1, h2⟩))
    obtain ⟨dl, hdl⟩ : ∃ dl, D.l = dl := ⟨_, rfl⟩
    obtain ⟨⟨p9, e9⟩, hσ9⟩ : ∃ τ, D.σ = τ := ⟨_, rfl⟩
    rw [hdl, hσ9] at hask HC9
    rw [hσ9] at hs
    simp only at hs
    subst hs
    clear hdn hdl hσ9
    by_cases hd0 : dn ≤ 0
    · have hA : ReadS.askC b = (⟨m, pt, ho, dl, []⟩, (p9, 0)) := by rw [hask, if_neg (by omega)]
      have HA := Lib.hid hA
      have HC11 := Lib.hid (fun W (hW : RS errN w W (w.heap.size + 1) (.slice a0 b.length cap) b (p9, 0)) => fault_any hW)
      have hf : ReadS.faultS b (p9, 0) = 0 := if_neg (by simp)
      rw [hf, errN0] at HC11
      have HF0 : Hid (ReadS.faultS b (p9, 0) = 0) := hf
      clear hask hA hf
      go_enter Tryd.func6, Tryd.ntmps6
      go_wp2_with (first
        | (go_at_call 19; (with_reducible refine (HC1.out _ HR0.out).mono ?_); rintro e w1 ⟨rfl, hR, hM⟩; have HR1 := Lib.hid (hR.setQ (Nat.le_refl _) HNE.out 0 (.string m)); have HQ1 := Lib.hid ((HQ0.out.mod hM HNE.out).set0 (.string m)); have y1 := (HQ0.out.mod hM HNE.out).g0; have x1 := (HQ0.out.mod hM HNE.out).z0; clear hR hM)
        | (go_at_call 21; (with_reducible refine (HC2.out _ HR1.out).mono ?_); rintro e w2 ⟨rfl, hR, hM⟩; have HR2 := Lib.hid hR; have HQ2 := Lib.hid (HQ1.out.mod hM HNE.out); clear hR hM)
        | (go_at_call 22; (with_reducible refine (HC3.out _ HR2.out).mono ?_); rintro e w3 ⟨rfl, hR, hM⟩; have HR3 := Lib.hid hR; have HQ3 := Lib.hid (HQ2.out.mod hM HNE.out); clear hR hM)
        | (go_at_call 19; (with_reducible refine (HC4.out _ HR3.out).mono ?_); rintro e w4 ⟨rfl, hR, hM⟩; have HR4 := Lib.hid (hR.setQ (Nat.le_refl _) HNE.out 1 (.string pt)); have HQ4 := Lib.hid ((HQ3.out.mod hM HNE.out).set1 (.string pt)); have y4 := (HQ3.out.mod hM HNE.out).g1; have x4 := (HQ3.out.mod hM HNE.out).z1; clear hR hM)
        | (go_at_call 21; (with_reducible refine (HC5.out _ HR4.out).mono ?_); rintro e w5 ⟨rfl, hR, hM⟩; have HR5 := Lib.hid hR; have HQ5 := Lib.hid (HQ4.out.mod hM HNE.out); clear hR hM)
        | (go_at_call 22; (with_reducible refine (HC6.out _ HR5.out).mono ?_); rintro e w6 ⟨rfl, hR, hM⟩; have HR6 := Lib.hid hR; have HQ6 := Lib.hid (HQ5.out.mod hM HNE.out); clear hR hM)
        | (go_at_call 24; (with_reducible refine (HC7.out _ HR6.out).mono ?_); rintro e w7 ⟨rfl, hR, hM⟩; have HR7 := Lib.hid (hR.setQ (Nat.le_refl _) HNE.out 2 (.string ho)); have HQ7 := Lib.hid ((HQ6.out.mod hM HNE.out).set2 (.string ho)); have y7 := (HQ6.out.mod hM HNE.out).g2; have x7 := (HQ6.out.mod hM HNE.out).z2; clear hR hM)
        | (go_at_call 21; (with_reducible refine (HC8.out _ HR7.out).mono ?_); rintro e w8 ⟨rfl, hR, hM⟩; have HR8 := Lib.hid hR; have HQ8 := Lib.hid (HQ7.out.mod hM HNE.out); clear hR hM))
      (with_reducible refine (HC9.out _ HR8.out).mono ?_)
      rintro e w9 ⟨⟨a, n, c, kk, rfl, hAt, hdn⟩, hR, hM⟩
      have HB8 : Hid (w.heap.size < w8.heap.size) := by show w.heap.size < w8.heap.size; have := HR8.out.rd.lt; omega
      have HAT := Lib.hid (own_setQ (i := 3) hAt HB8.out (.slice a n c))
      have HR9 := Lib.hid (hR.setQ (Nat.le_refl _) HNE.out 3 (.slice a n c))
      have HQ9 := Lib.hid ((HQ8.out.mod hM HNE.out).set3 (.slice a n c))
      obtain ⟨k0, k1, k2, k3, k4, z0, z1, z2, z3, z4⟩ := HQ8.out.mod hM HNE.out
      clear hR hM HC1 HC2 HC3 HC4 HC5 HC6 HC7 HC8 HC9 HR0 HR1 HR2 HR3 HR4 HR5 HR6 HR7 HR8 HQ0 HQ1 HQ2 HQ3 HQ4 HQ5 HQ6 HQ7 HQ8 hAt
      go_simp
      go_wp2_with (first
        | (go_at_call 27; (with_reducible refine (HC11.out _ HR9.out).mono ?_); rintro e w11 ⟨rfl, rfl⟩))
      clear k0 k1 k2 k3 k4 z0 z1 z2 z3 z4
      have HBW := Lib.hid HR9.out.bel
      have c1 := HR9.out.cells.2.1
      obtain ⟨g0, g1, g2, g3, g4, z0, z1, z2, z3, z4⟩ := HQ9.out
      generalize w9.setCell ⟨w.heap.size, 3, none⟩ (.slice a n c) = W at *
      go_region
      go_wp2
      refine bodyPost_ret (v := .tuple #[.agg #[.string m, .string pt, .string ho, .slice a n c, .slice none 0 0], .int .i64 p9, .nilIface]) (by simp [results, Tryd.results6, go_sem, g0, g1, g2, g3, g4]) rfl ⟨?_, .inl ⟨by rw [HA.out]; exact HF0.out, ?_⟩⟩
      · exact bel_set5 HBW.out (Nat.le_refl _) 1 _ _ _ _ _
      · rw [HA.out]
        exact ⟨a, n, c, _, _, _, rfl, own_set5 HAT.out HB8.out 1 _ _ _ _ _, bytes_nil _⟩
    · obtain ⟨q, rfl⟩ : ∃ q : Nat, dn = (q : Int) := ⟨dn.toNat, by omega⟩
      obtain ⟨⟨ub, τ⟩, hu⟩ : ∃ U, ReadS.bodyS b q (p9, 0) = U := ⟨_, rfl⟩
      have hA : ReadS.askC b = (⟨m, pt, ho, dl, ub⟩, τ) := by rw [hask, if_pos (by omega), Int.toNat_natCast, hu]
      have HA := Lib.hid hA
      have HC10 := Lib.hid (fun W (hW : RS errN w W (w.heap.size + 1) (.slice a0 b.length cap) b (p9, 0)) hn => body_any hW q hn)
      obtain ⟨n2, hn2⟩ : ∃ n2, ub.length = n2 := ⟨_, rfl⟩
      simp only [hu, hn2] at HC10
      have hq0 : 0 < q := by omega
      obtain ⟨F, hF⟩ : ∃ F, ReadS.faultS b τ = F := ⟨_, rfl⟩
      have HFF := Lib.hid hF
      have HC11 := Lib.hid (fun W (hW : RS errN w W (w.heap.size + 1) (.slice a0 b.length cap) b τ) => fault_any hW)
      rw [hF] at HC11
      by_cases hF0 : F = 0
      · subst hF0
        rw [errN0] at HC11
        obtain ⟨p10, e10⟩ := τ
        have he : e10 = 0 := by
          unfold ReadS.faultS at hF
          split at hF
          · cases hF
          · exact hF
        subst he
        have HF0 : Hid (ReadS.faultS b (p10, 0) = 0) := hF
        clear hask hA hu hn2 hF hd0
        go_enter Tryd.func6, Tryd.ntmps6
        go_wp2_with (first
          | (go_at_call 19; (with_reducible refine (HC1.out _ HR0.out).mono ?_); rintro e w1 ⟨rfl, hR, hM⟩; have HR1 := Lib.hid (hR.setQ (Nat.le_refl _) HNE.out 0 (.string m)); have HQ1 := Lib.hid ((HQ0.out.mod hM HNE.out).set0 (.string m)); have y1 := (HQ0.out.mod hM HNE.out).g0; have x1 := (HQ0.out.mod hM HNE.out).z0; clear hR hM)
          | (go_at_call 21; (with_reducible refine (HC2.out _ HR1.out).mono ?_); rintro e w2 ⟨rfl, hR, hM⟩; have HR2 := Lib.hid hR; have HQ2 := Lib.hid (HQ1.out.mod hM HNE.out); clear hR hM)
          | (go_at_call 22; (with_reducible refine (HC3.out _ HR2.out).mono ?_); rintro e w3 ⟨rfl, hR, hM⟩; have HR3 := Lib.hid hR; have HQ3 := Lib.hid (HQ2.out.mod hM HNE.out); clear hR hM)
          | (go_at_call 19; (with_reducible refine (HC4.out _ HR3.out).mono ?_); rintro e w4 ⟨rfl, hR, hM⟩; have HR4 := Lib.hid (hR.setQ (Nat.le_refl _) HNE.out 1 (.string pt)); have HQ4 := Lib.hid ((HQ3.out.mod hM HNE.out).set1 (.string pt)); have y4 := (HQ3.out.mod hM HNE.out).g1; have x4 := (HQ3.out.mod hM HNE.out).z1; clear hR hM)
          | (go_at_call 21; (with_reducible refine (HC5.out _ HR4.out).mono ?_); rintro e w5 ⟨rfl, hR, hM⟩; have HR5 := Lib.hid hR; have HQ5 := Lib.hid (HQ4.out.mod hM HNE.out); clear hR hM)
          | (go_at_call 22; (with_reducible refine (HC6.out _ HR5.out).mono ?_); rintro e w6 ⟨rfl, hR, hM⟩; have HR6 := Lib.hid hR; have HQ6 := Lib.hid (HQ5.out.mod hM HNE.out); clear hR hM)
          | (go_at_call 24; (with_reducible refine (HC7.out _ HR6.out).mono ?_); rintro e w7 ⟨rfl, hR, hM⟩; have HR7 := Lib.hid (hR.setQ (Nat.le_refl _) HNE.out 2 (.string ho)); have HQ7 := Lib.hid ((HQ6.out.mod hM HNE.out).set2 (.string ho)); have y7 := (HQ6.out.mod hM HNE.out).g2; have x7 := (HQ6.out.mod hM HNE.out).z2; clear hR hM)
          | (go_at_call 21; (with_reducible refine (HC8.out _ HR7.out).mono ?_); rintro e w8 ⟨rfl, hR, hM⟩; have HR8 := Lib.hid hR; have HQ8 := Lib.hid (HQ7.out.mod hM HNE.out); clear hR hM))
        (with_reducible refine (HC9.out _ HR8.out).mono ?_)
        rintro e w9 ⟨⟨a, n, c, kk, rfl, hAt, hdn⟩, hR, hM⟩
        have HB8 : Hid (w.heap.size < w8.heap.size) := by show w.heap.size < w8.heap.size; have := HR8.out.rd.lt; omega
        have HX8 : Hid (w.heap.size + 1 < w8.heap.size) := HR8.out.rd.lt
        have HAT := Lib.hid (own_setQ (i := 3) hAt HB8.out (.slice a n c))
        have HR9 := Lib.hid (hR.setQ (Nat.le_refl _) HNE.out 3 (.slice a n c))
        have HQ9 := Lib.hid ((HQ8.out.mod hM HNE.out).set3 (.slice a n c))
        obtain ⟨k0, k1, k2, k3, k4, z0, z1, z2, z3, z4⟩ := HQ8.out.mod hM HNE.out
        have HS9 := Lib.hid hM.size
        have HDN : Hid (q ≤ 100000) := by show q ≤ 100000; omega
        clear hR hM HC1 HC2 HC3 HC4 HC5 HC6 HC7 HC8 HC9 HR0 HR1 HR2 HR3 HR4 HR5 HR6 HR7 HR8 HQ0 HQ1 HQ2 HQ3 HQ4 HQ5 HQ6 HQ7 HQ8 hAt hdn
        go_simp
        go_wp2_with fail
        (with_reducible refine (HC10.out _ HR9.out HDN.out).mono ?_)
        rintro e w10 ⟨⟨a2, c2, rfl, hat⟩, hR, hM⟩
        have HR10 := Lib.hid (hR.setQ (Nat.le_refl _) HNE.out 4 (.slice a2 n2 c2))
        have HQ10 := Lib.hid ((HQ9.out.mod hM HNE.out).set4 (.slice a2 n2 c2))
        have hsz9 : w9.heap.size = (w9.setCell ⟨w.heap.size, 3, none⟩ (.slice a n c)).heap.size := by simp [World.setCell]
        have HB9 : Hid (w.heap.size < (w9.setCell ⟨w.heap.size, 3, none⟩ (.slice a n c)).heap.size) := by show w.heap.size < _; rw [← hsz9]; have := HB8.out; have := HS9.out; omega
        have HBO := Lib.hid (BytesL.Own.setLow hat ⟨w.heap.size, 4, none⟩ HB9.out (.slice a2 n2 c2))
        have HAT2 := Lib.hid (own_setQ (i := 4) (HAT.out.of_block (w' := w10) (fun k hk => hM.block k (HAT.out.lt k hk).2 (fun e => by have h1 := (HAT.out.lt k hk).1; have h2 := HX8.out; omega))) HB8.out (.slice a2 n2 c2))
        obtain ⟨j0, j1, j2, j3, j4, u0, u1, u2, u3, u4⟩ := HQ9.out.mod hM HNE.out
        clear hR hM hat hsz9 k0 k1 k2 k3 k4 z0 z1 z2 z3 z4
        go_simp
        go_wp2_with (first
          | (go_at_call 27; (with_reducible refine (HC11.out _ HR10.out).mono ?_); rintro e w11 ⟨rfl, rfl⟩))
        clear j0 j1 j2 j3 j4 u0 u1 u2 u3 u4
        have HBW := Lib.hid HR10.out.bel
        have c1 := HR10.out.cells.2.1
        obtain ⟨g0, g1, g2, g3, g4, z0, z1, z2, z3, z4⟩ := HQ10.out
        generalize w10.setCell ⟨w.heap.size, 4, none⟩ (.slice a2 n2 c2) = W at *
        go_region
        go_wp2
        refine bodyPost_ret (v := .tuple #[.agg #[.string m, .string pt, .string ho, .slice a n c, .slice a2 n2 c2], .int .i64 p10, .nilIface]) (by simp [results, Tryd.results6, go_sem, g0, g1, g2, g3, g4]) rfl ⟨?_, .inl ⟨by rw [HA.out]; exact HF0.out, ?_⟩⟩
        · exact bel_set5 HBW.out (Nat.le_refl _) 1 _ _ _ _ _
        · rw [HA.out]
          exact ⟨a, n, c, _, _, _, rfl, own_set5 HAT2.out HB8.out 1 _ _ _ _ _, byte_set5 HBO.out HB9.out 1 _ _ _ _ _⟩
      · rw [errNk hF0] at HC11
        have HF0 := Lib.hid hF0
        clear hask hA hu hn2 hF hF0 hd0
        go_enter Tryd.func6, Tryd.ntmps6
        go_wp2_with (first
          | (go_at_call 19; (with_reducible refine (HC1.out _ HR0.out).mono ?_); rintro e w1 ⟨rfl, hR, hM⟩; have HR1 := Lib.hid (hR.setQ (Nat.le_refl _) HNE.out 0 (.string m)); have HQ1 := Lib.hid ((HQ0.out.mod hM HNE.out).set0 (.string m)); have y1 := (HQ0.out.mod hM HNE.out).g0; have x1 := (HQ0.out.mod hM HNE.out).z0; clear hR hM)
          | (go_at_call 21; (with_reducible refine (HC2.out _ HR1.out).mono ?_); rintro e w2 ⟨rfl, hR, hM⟩; have HR2 := Lib.hid hR; have HQ2 := Lib.hid (HQ1.out.mod hM HNE.out); clear hR hM)
          | (go_at_call 22; (with_reducible refine (HC3.out _ HR2.out).mono ?_); rintro e w3 ⟨rfl, hR, hM⟩; have HR3 := Lib.hid hR; have HQ3 := Lib.hid (HQ2.out.mod hM HNE.out); clear hR hM)
          | (go_at_call 19; (with_reducible refine (HC4.out _ HR3.out).mono ?_); rintro e w4 ⟨rfl, hR, hM⟩; have HR4 := Lib.hid (hR.setQ (Nat.le_refl _) HNE.out 1 (.string pt)); have HQ4 := Lib.hid ((HQ3.out.mod hM HNE.out).set1 (.string pt)); have y4 := (HQ3.out.mod hM HNE.out).g1; have x4 := (HQ3.out.mod hM HNE.out).z1; clear hR hM)
          | (go_at_call 21; (with_reducible refine (HC5.out _ HR4.out).mono ?_); rintro e w5 ⟨rfl, hR, hM⟩; have HR5 := Lib.hid hR; have HQ5 := Lib.hid (HQ4.out.mod hM HNE.out); clear hR hM)
          | (go_at_call 22; (with_reducible refine (HC6.out _ HR5.out).mono ?_); rintro e w6 ⟨rfl, hR, hM⟩; have HR6 := Lib.hid hR; have HQ6 := Lib.hid (HQ5.out.mod hM HNE.out); clear hR hM)
          | (go_at_call 24; (with_reducible refine (HC7.out _ HR6.out).mono ?_); rintro e w7 ⟨rfl, hR, hM⟩; have HR7 := Lib.hid (hR.setQ (Nat.le_refl _) HNE.out 2 (.string ho)); have HQ7 := Lib.hid ((HQ6.out.mod hM HNE.out).set2 (.string ho)); have y7 := (HQ6.out.mod hM HNE.out).g2; have x7 := (HQ6.out.mod hM HNE.out).z2; clear hR hM)
          | (go_at_call 21; (with_reducible refine (HC8.out _ HR7.out).mono ?_); rintro e w8 ⟨rfl, hR, hM⟩; have HR8 := Lib.hid hR; have HQ8 := Lib.hid (HQ7.out.mod hM HNE.out); clear hR hM))
        (with_reducible refine (HC9.out _ HR8.out).mono ?_)
        rintro e w9 ⟨⟨a, n, c, kk, rfl, hAt, hdn⟩, hR, hM⟩
        have HB8 : Hid (w.heap.size < w8.heap.size) := by show w.heap.size < w8.heap.size; have := HR8.out.rd.lt; omega
        have HX8 : Hid (w.heap.size + 1 < w8.heap.size) := HR8.out.rd.lt
        have HAT := Lib.hid (own_setQ (i := 3) hAt HB8.out (.slice a n c))
        have HR9 := Lib.hid (hR.setQ (Nat.le_refl _) HNE.out 3 (.slice a n c))
        have HQ9 := Lib.hid ((HQ8.out.mod hM HNE.out).set3 (.slice a n c))
        obtain ⟨k0, k1, k2, k3, k4, z0, z1, z2, z3, z4⟩ := HQ8.out.mod hM HNE.out
        have HS9 := Lib.hid hM.size
        have HDN : Hid (q ≤ 100000) := by show q ≤ 100000; omega
        clear hR hM HC1 HC2 HC3 HC4 HC5 HC6 HC7 HC8 HC9 HR0 HR1 HR2 HR3 HR4 HR5 HR6 HR7 HR8 HQ0 HQ1 HQ2 HQ3 HQ4 HQ5 HQ6 HQ7 HQ8 hAt hdn
        go_simp
        go_wp2_with fail
        (with_reducible refine (HC10.out _ HR9.out HDN.out).mono ?_)
        rintro e w10 ⟨⟨a2, c2, rfl, hat⟩, hR, hM⟩
        have HR10 := Lib.hid (hR.setQ (Nat.le_refl _) HNE.out 4 (.slice a2 n2 c2))
        have HQ10 := Lib.hid ((HQ9.out.mod hM HNE.out).set4 (.slice a2 n2 c2))
        have hsz9 : w9.heap.size = (w9.setCell ⟨w.heap.size, 3, none⟩ (.slice a n c)).heap.size := by simp [World.setCell]
        have HB9 : Hid (w.heap.size < (w9.setCell ⟨w.heap.size, 3, none⟩ (.slice a n c)).heap.size) := by show w.heap.size < _; rw [← hsz9]; have := HB8.out; have := HS9.out; omega
        have HBO := Lib.hid (BytesL.Own.setLow hat ⟨w.heap.size, 4, none⟩ HB9.out (.slice a2 n2 c2))
        have HAT2 := Lib.hid (own_setQ (i := 4) (HAT.out.of_block (w' := w10) (fun k hk => hM.block k (HAT.out.lt k hk).2 (fun e => by have h1 := (HAT.out.lt k hk).1; have h2 := HX8.out; omega))) HB8.out (.slice a2 n2 c2))
        obtain ⟨j0, j1, j2, j3, j4, u0, u1, u2, u3, u4⟩ := HQ9.out.mod hM HNE.out
        clear hR hM hat hsz9 k0 k1 k2 k3 k4 z0 z1 z2 z3 z4
        go_simp
        go_wp2_with (first
          | (go_at_call 27; (with_reducible refine (HC11.out _ HR10.out).mono ?_); rintro e w11 ⟨rfl, rfl⟩))
        refine bodyPost_ret (v := .tuple #[.agg #[.string ⟨#[]⟩, .string ⟨#[]⟩, .string ⟨#[]⟩, .slice none 0 0, .slice none 0 0], .int .i64 0, .iface 63 (.int .i64 F)]) (by simp [results, Tryd.results6, go_sem, j0, j1, j2, j3, j4]) rfl ⟨?_, .inr ⟨by rw [HA.out]; simp only; rw [HFF.out]; exact HF0.out, by rw [HA.out]; simp only; rw [HFF.out, errNk HF0.out]⟩⟩
        exact (((((HR10.out.bel.setCell (Nat.le_refl _) _).setCell (Nat.le_refl _) _).setCell (Nat.le_refl _) _).setCell (Nat.le_refl _) _).setCell (Nat.le_refl _) _)
  · have hy : ∀ n : Nat, ReadS.bodyS b n D.σ = ([], D.σ) := fun n => if_pos hs
    have hA2 : (ReadS.askC b).2 = D.σ := by
      rw [hask]
      simp only
      split
      · rw [hy]
      · rfl
    obtain ⟨F, hF⟩ : ∃ F, ReadS.faultS b D.σ = F := ⟨_, rfl⟩
    have hF0 : F ≠ 0 := by rw [← hF]; unfold ReadS.faultS; split <;> omega
    have HA := Lib.hid hA2
    have HFF := Lib.hid hF
    have HC10 := Lib.hid (fun W (hW : RS errN w W (w.heap.size + 1) (.slice a0 b.length cap) b D.σ) n hn => body_any hW n hn)
    simp only [hy, List.length_nil] at HC10
    have HC11 := Lib.hid (fun W (hW : RS errN w W (w.heap.size + 1) (.slice a0 b.length cap) b D.σ) => fault_any hW)
    rw [hF, errNk hF0] at HC11
    have HF0 := Lib.hid hF0
    clear hask hy hA2 hF hF0 hs
    have HC9 := Lib.hid (fun W hW => (HC9.out W hW).mono (R' := fun e w' => ((∃ (a : Option Addr) (n c : Nat) (m : Int) (k : Bool), m ≤ 0 ∧ e = .returned (.tuple #[.slice a n c, .int .i64 m, .bool k]) ∧ HD W.heap.size w' D (.slice a n c) m k) ∨ (∃ (a : Option Addr) (n c q : Nat) (k : Bool), (0 < q ∧ q ≤ 100000) ∧ e = .returned (.tuple #[.slice a n c, .int .i64 (q : Int), .bool k]) ∧ HD W.heap.size w' D (.slice a n c) (q : Int) k)) ∧ RS errN w w' (w.heap.size + 1) (.slice a0 b.length cap) b D.σ ∧ Mod (fun k => k = w.heap.size + 1) W w') (by
      rintro e w' ⟨⟨a, n, c, m, k, he, hh⟩, h1, h2⟩
      refine ⟨?_, h1, h2⟩
      by_cases hm : m ≤ 0
      · exact .inl ⟨a, n, c, m, k, hm, he, hh⟩
      · obtain ⟨q, rfl⟩ : ∃ q : Nat, m = (q : Int) := ⟨m.toNat, by omega⟩
        have := hh.2.1
        exact .inr ⟨a, n, c, q, k, by omega, he, hh⟩))
    go_enter Tryd.func6, Tryd.ntmps6
    go_wp2_with (first
      | (go_at_call 19; (with_reducible refine (HC1.out _ HR0.out).mono ?_); rintro e w1 ⟨rfl, hR, hM⟩; have HR1 := Lib.hid (hR.setQ (Nat.le_refl _) HNE.out 0 (.string m)); have HQ1 := Lib.hid ((HQ0.out.mod hM HNE.out).set0 (.string m)); have y1 := (HQ0.out.mod hM HNE.out).g0; have x1 := (HQ0.out.mod hM HNE.out).z0; clear hR hM)
      | (go_at_call 21; (with_reducible refine (HC2.out _ HR1.out).mono ?_); rintro e w2 ⟨rfl, hR, hM⟩; have HR2 := Lib.hid hR; have HQ2 := Lib.hid (HQ1.out.mod hM HNE.out); clear hR hM)
      | (go_at_call 22; (with_reducible refine (HC3.out _ HR2.out).mono ?_); rintro e w3 ⟨rfl, hR, hM⟩; have HR3 := Lib.hid hR; have HQ3 := Lib.hid (HQ2.out.mod hM HNE.out); clear hR hM)
      | (go_at_call 19; (with_reducible refine (HC4.out _ HR3.out).mono ?_); rintro e w4 ⟨rfl, hR, hM⟩; have HR4 := Lib.hid (hR.setQ (Nat.le_refl _) HNE.out 1 (.string pt)); have HQ4 := Lib.hid ((HQ3.out.mod hM HNE.out).set1 (.string pt)); have y4 := (HQ3.out.mod hM HNE.out).g1; have x4 := (HQ3.out.mod hM HNE.out).z1; clear hR hM)
      | (go_at_call 21; (with_reducible refine (HC5.out _ HR4.out).mono ?_); rintro e w5 ⟨rfl, hR, hM⟩; have HR5 := Lib.hid hR; have HQ5 := Lib.hid (HQ4.out.mod hM HNE.out); clear hR hM)
      | (go_at_call 22; (with_reducible refine (HC6.out _ HR5.out).mono ?_); rintro e w6 ⟨rfl, hR, hM⟩; have HR6 := Lib.hid hR; have HQ6 := Lib.hid (HQ5.out.mod hM HNE.out); clear hR hM)
      | (go_at_call 24; (with_reducible refine (HC7.out _ HR6.out).mono ?_); rintro e w7 ⟨rfl, hR, hM⟩; have HR7 := Lib.hid (hR.setQ (Nat.le_refl _) HNE.out 2 (.string ho)); have HQ7 := Lib.hid ((HQ6.out.mod hM HNE.out).set2 (.string ho)); have y7 := (HQ6.out.mod hM HNE.out).g2; have x7 := (HQ6.out.mod hM HNE.out).z2; clear hR hM)
      | (go_at_call 21; (with_reducible refine (HC8.out _ HR7.out).mono ?_); rintro e w8 ⟨rfl, hR, hM⟩; have HR8 := Lib.hid hR; have HQ8 := Lib.hid (HQ7.out.mod hM HNE.out); clear hR hM))
    (with_reducible refine (HC9.out _ HR8.out).mono ?_)
    rintro e w9 ⟨(⟨a, n, c, nn, kk, hn0, rfl, hHD⟩ | ⟨a, n, c, q, kk, ⟨hq0, hq1⟩, rfl, hHD⟩), hR, hM⟩
    all_goals
      have HHD := Lib.hid hHD
      have HR9 := Lib.hid (hR.setQ (Nat.le_refl _) HNE.out 3 (.slice a n c))
      have HQ9 := Lib.hid ((HQ8.out.mod hM HNE.out).set3 (.slice a n c))
      obtain ⟨k0, k1, k2, k3, k4, z0, z1, z2, z3, z4⟩ := HQ8.out.mod hM HNE.out
      clear hR hM hHD HC1 HC2 HC3 HC4 HC5 HC6 HC7 HC8 HC9 HR0 HR1 HR2 HR3 HR4 HR5 HR6 HR7 HR8 HQ0 HQ1 HQ2 HQ3 HQ4 HQ5 HQ6 HQ7 HQ8
      go_simp
    · have hn1 : ¬ (0 < nn) := by omega
      go_wp2_with (first
        | (go_at_call 27; (with_reducible refine (HC11.out _ HR9.out).mono ?_); rintro e w11 ⟨rfl, rfl⟩))
      refine bodyPost_ret (v := .tuple #[.agg #[.string ⟨#[]⟩, .string ⟨#[]⟩, .string ⟨#[]⟩, .slice none 0 0, .slice none 0 0], .int .i64 0, .iface 63 (.int .i64 F)]) (by simp [results, Tryd.results6, go_sem, k0, k1, k2, k3, k4]) rfl ⟨?_, .inr ⟨by rw [HA.out, HFF.out]; exact HF0.out, by rw [HA.out, HFF.out, errNk HF0.out]⟩⟩
      exact ((((((HR9.out.bel.setCell (Nat.le_refl _) _).setCell (Nat.le_refl _) _).setCell (Nat.le_refl _) _).setCell (Nat.le_refl _) _).setCell (Nat.le_refl _) _))
    · go_wp2_with fail
      (with_reducible refine (HC10.out _ HR9.out _ (by omega)).mono ?_)
      rintro e w10 ⟨⟨a2, c2, rfl, hat⟩, hR, hM⟩
      have HR10 := Lib.hid (hR.setQ (Nat.le_refl _) HNE.out 4 (.slice a2 0 c2))
      obtain ⟨j0, j1, j2, j3, j4, u0, u1, u2, u3, u4⟩ := HQ9.out.mod hM HNE.out
      clear hR hM hat k0 k1 k2 k3 k4 z0 z1 z2 z3 z4
      go_simp
      go_wp2_with (first
        | (go_at_call 27; (with_reducible refine (HC11.out _ HR10.out).mono ?_); rintro e w11 ⟨rfl, rfl⟩))
      refine bodyPost_ret (v := .tuple #[.agg #[.string ⟨#[]⟩, .string ⟨#[]⟩, .string ⟨#[]⟩, .slice none 0 0, .slice none 0 0], .int .i64 0, .iface 63 (.int .i64 F)]) (by simp [results, Tryd.results6, go_sem, j0, j1, j2, j3, j4]) rfl ⟨?_, .inr ⟨by rw [HA.out, HFF.out]; exact HF0.out, by rw [HA.out, HFF.out, errNk HF0.out]⟩⟩
      exact ((((((HR10.out.bel.setCell (Nat.le_refl _) _).setCell (Nat.le_refl _) _).setCell (Nat.le_refl _) _).setCell (Nat.le_refl _) _).setCell (Nat.le_refl _) _))
end Go.Proofs.YtkohbbnnjakhjaaDoor.ReadC
