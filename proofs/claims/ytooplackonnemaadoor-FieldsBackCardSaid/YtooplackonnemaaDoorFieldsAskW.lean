/-
  fields.Ask over this seat's translation, on three pseudo fields and a rest without such.
  Conditions: where the data lie; how long they are; the powers of ten.
-/
import Derived.Test.YtooplackonnemaaDoorFieldsAsk
import Derived.StillTailTactics
import Derived.Laws.Concat
namespace Go.Proofs.YtooplackonnemaaDoor.FieldsC
open Go.RowKit Go.Shelf RowsK RowsM FieldRows LineC LineM BA RoundL AfterL MapsL Go.Maps Go.WideAt
set_option linter.unusedVariables false
set_option linter.unusedSimpArgs false

def W3 (l : List Fld) : Nat := (l.map fun f => f.2.size + 3).sum
theorem W3_snoc (l : List Fld) (f : Fld) : W3 (l ++ [f]) = W3 l + (f.2.size + 3) := by simp [W3]
theorem W3_app (a b : List Fld) : W3 (a ++ b) = W3 a + W3 b := by simp [W3]
theorem W3_set : ∀ (l : List Fld) (k : Nat) (x : Fld), k < l.length → W3 (l.set k x) + ((l.getD k default).2.size + 3) = W3 l + (x.2.size + 3)
  | [], k, x, h => by simp at h
  | f :: l, 0, x, _ => by simp [W3]; omega
  | f :: l, k + 1, x, h => by
    have ih := W3_set l k x (by simpa using h)
    simp only [List.set_cons_succ, List.getD_cons_succ, W3, List.map_cons, List.sum_cons] at ih ⊢
    omega
theorem W3_mem : ∀ {l : List Fld} {k : Nat}, k < l.length → (l.getD k default).2.size + 3 ≤ W3 l
  | [], k, h => by simp at h
  | f :: l, 0, _ => by simp [W3]
  | f :: l, k + 1, h => by
    have ih := W3_mem (l := l) (k := k) (by simpa using h)
    simp only [List.getD_cons_succ, W3, List.map_cons, List.sum_cons] at ih ⊢
    omega
theorem W3_step {s : Option Nat × List Fld} (h : ckOk s) (f : Fld) : W3 (askStep s f).2 ≤ W3 s.2 + (f.2.size + 3) := by
  unfold askStep
  split
  · omega
  · split
    · cases hk : s.1 with
      | some k =>
        have h1 := W3_set s.2 k ((s.2.getD k default).1, (s.2.getD k default).2 ++ (crumbB ++ f.2)) (h k hk)
        have h2 : ((s.2.getD k default).2 ++ (crumbB ++ f.2)).size = (s.2.getD k default).2.size + (2 + f.2.size) := by
          rw [ByteArray.size_append, ByteArray.size_append]; rfl
        simp only [h2] at h1
        simp only
        omega
      | none => simp only [W3_snoc]; omega
    · simp only [W3_snoc]; omega
theorem len_W3 (l : List Fld) : l.length ≤ W3 l := by
  induction l with
  | nil => simp [W3]
  | cons f l ih => simp only [W3, List.map_cons, List.sum_cons, List.length_cons] at ih ⊢; omega
/-- A block of five cells, still as it was laid. -/
structure Held5 (B : Nat) (W : World) (c0 c1 c2 c3 c4 : Value) : Prop where
  lt : B < W.heap.size
  c0 : W.cell? ⟨B, 0, none⟩ = some c0
  c1 : W.cell? ⟨B, 1, none⟩ = some c1
  c2 : W.cell? ⟨B, 2, none⟩ = some c2
  c3 : W.cell? ⟨B, 3, none⟩ = some c3
  c4 : W.cell? ⟨B, 4, none⟩ = some c4
  f : ∀ i, W.frozen? ⟨B, i, none⟩ = false
theorem Held5.keep {B : Nat} {W W' : World} {a b c d e : Value} (h : Held5 B W a b c d e) (hs : W.heap.size ≤ W'.heap.size) (hb : W'.heap[B]? = W.heap[B]?) : Held5 B W' a b c d e :=
  ⟨Nat.lt_of_lt_of_le h.lt hs, (World.cell?_of_block (a := ⟨B, 0, none⟩) hb).trans h.c0, (World.cell?_of_block (a := ⟨B, 1, none⟩) hb).trans h.c1, (World.cell?_of_block (a := ⟨B, 2, none⟩) hb).trans h.c2, (World.cell?_of_block (a := ⟨B, 3, none⟩) hb).trans h.c3, (World.cell?_of_block (a := ⟨B, 4, none⟩) hb).trans h.c4, fun i => (World.frozen?_of_block (a := ⟨B, i, none⟩) hb).trans (h.f i)⟩
theorem Held5.step {B K : Nat} {W W' : World} {a b c d e : Value} (h : Held5 B W a b c d e) (hB : Below K W W') (hk : B < K) : Held5 B W' a b c d e := h.keep hB.size (hB.block B hk)
theorem Held5.p0 {B : Nat} {W : World} {a b c d e : Value} (h : Held5 B W a b c d e) (x : Value) : Held5 B (W.setCell ⟨B, 0, none⟩ x) x b c d e := ⟨by simpa using h.lt, World.cell?_setCell_same _ _ _ h.c0, (World.cell?_setCell_other _ _ _ _ (by simp)).trans h.c1, (World.cell?_setCell_other _ _ _ _ (by simp)).trans h.c2, (World.cell?_setCell_other _ _ _ _ (by simp)).trans h.c3, (World.cell?_setCell_other _ _ _ _ (by simp)).trans h.c4, fun i => by simp; exact h.f i⟩
theorem Held5.p1 {B : Nat} {W : World} {a b c d e : Value} (h : Held5 B W a b c d e) (x : Value) : Held5 B (W.setCell ⟨B, 1, none⟩ x) a x c d e := ⟨by simpa using h.lt, (World.cell?_setCell_other _ _ _ _ (by simp)).trans h.c0, World.cell?_setCell_same _ _ _ h.c1, (World.cell?_setCell_other _ _ _ _ (by simp)).trans h.c2, (World.cell?_setCell_other _ _ _ _ (by simp)).trans h.c3, (World.cell?_setCell_other _ _ _ _ (by simp)).trans h.c4, fun i => by simp; exact h.f i⟩
theorem Held5.p2 {B : Nat} {W : World} {a b c d e : Value} (h : Held5 B W a b c d e) (x : Value) : Held5 B (W.setCell ⟨B, 2, none⟩ x) a b x d e := ⟨by simpa using h.lt, (World.cell?_setCell_other _ _ _ _ (by simp)).trans h.c0, (World.cell?_setCell_other _ _ _ _ (by simp)).trans h.c1, World.cell?_setCell_same _ _ _ h.c2, (World.cell?_setCell_other _ _ _ _ (by simp)).trans h.c3, (World.cell?_setCell_other _ _ _ _ (by simp)).trans h.c4, fun i => by simp; exact h.f i⟩
theorem Held5.p3 {B : Nat} {W : World} {a b c d e : Value} (h : Held5 B W a b c d e) (x : Value) : Held5 B (W.setCell ⟨B, 3, none⟩ x) a b c x e := ⟨by simpa using h.lt, (World.cell?_setCell_other _ _ _ _ (by simp)).trans h.c0, (World.cell?_setCell_other _ _ _ _ (by simp)).trans h.c1, (World.cell?_setCell_other _ _ _ _ (by simp)).trans h.c2, World.cell?_setCell_same _ _ _ h.c3, (World.cell?_setCell_other _ _ _ _ (by simp)).trans h.c4, fun i => by simp; exact h.f i⟩
theorem Held5.p4 {B : Nat} {W : World} {a b c d e : Value} (h : Held5 B W a b c d e) (x : Value) : Held5 B (W.setCell ⟨B, 4, none⟩ x) a b c d x := ⟨by simpa using h.lt, (World.cell?_setCell_other _ _ _ _ (by simp)).trans h.c0, (World.cell?_setCell_other _ _ _ _ (by simp)).trans h.c1, (World.cell?_setCell_other _ _ _ _ (by simp)).trans h.c2, (World.cell?_setCell_other _ _ _ _ (by simp)).trans h.c3, World.cell?_setCell_same _ _ _ h.c4, fun i => by simp; exact h.f i⟩
theorem Held5.put {B : Nat} {W : World} {a b c d e : Value} (h : Held5 B W a b c d e) (x0 x1 x2 x3 x4 : Value) : Held5 B (((((W.setCell ⟨B, 0, none⟩ x0).setCell ⟨B, 1, none⟩ x1).setCell ⟨B, 2, none⟩ x2).setCell ⟨B, 3, none⟩ x3).setCell ⟨B, 4, none⟩ x4) x0 x1 x2 x3 x4 := ((((h.p0 x0).p1 x1).p2 x2).p3 x3).p4 x4
/-- What Ask says that it could not. -/
def rqZero : Value := .agg #[.string ⟨#[]⟩, .string ⟨#[]⟩, .string ⟨#[]⟩, .slice none 0 0, .slice none 0 0]
def AskPost (w : World) (m p h : ByteArray) (rest : List Fld) (body : List Int) (e : Ending) (w' : World) : Prop :=
  Below w.heap.size w w' ∧
    ((askRun (itoaB body.length) (none, []) rest = none ∧ e = .returned (.tuple #[rqZero, .iface 52 (.int .i64 3)])) ∨
     ∃ s, askRun (itoaB body.length) (none, []) rest = some s ∧
      ((askE ⟨m, p, h, s.2, body⟩ ≠ 0 ∧ e = .returned (.tuple #[rqZero, .iface 52 (.int .i64 (askE ⟨m, p, h, s.2, body⟩))])) ∨
       (askE ⟨m, p, h, s.2, body⟩ = 0 ∧ ∃ fa fn fc ba bn bc, e = .returned (.tuple #[.agg #[.string m, .string p, .string h, .slice fa fn fc, .slice ba bn bc], .nilIface]) ∧ At encF w' (.slice fa fn fc) s.2 ∧ BytesAt w' (.slice ba bn bc) body)))
theorem askRun_take {bl : ByteArray} {rest : List Fld} {i : Nat} {s : Option Nat × List Fld} {f : Fld} (hi : rest[i]? = some f) (hr : askRun bl (none, []) (rest.take i) = some s) : askRun bl (none, []) (rest.take (i + 1)) = if badF bl f then none else some (askStep s f) := by
  obtain ⟨hi2, hf⟩ := List.getElem?_eq_some_iff.1 hi
  rw [List.take_succ_eq_append_getElem hi2, hf, askRun_snoc bl _ _ _ _ hr]
def ckV : Option Nat → Int
  | none => -1
  | some k => k
set_option maxRecDepth 100000 in
set_option maxHeartbeats 40000000 in
theorem ask_any (m p h : ByteArray) (rest : List Fld) (body : List Int) (v vb : Value) (w : World) (hl : At encF w v ((mN, m) :: (pN, p) :: (hN, h) :: rest)) (hb : BytesAt w vb body) (hc : ∀ f ∈ rest, colonB f.1 = false) (hw3 : W3 rest ≤ 8000000) (hbl : body.length ≤ 1000000) (hp : Pow10 w) :
    Calls Tryd.prog 5 #[v, vb] w (AskPost w m p h rest body) := by
  have hv : ∀ g, v.ownBlock = some g → g < w.heap.size := by
    obtain ⟨a, cap, rfl, h1, h2, -, hel⟩ := id hl
    intro g hg
    obtain ⟨b, off, rfl, hbb, -⟩ := hel 0 (by simp)
    cases hg
    exact hbb
  have HCB := Lib.hid (fun W (hB : Below w.heap.size w W) => SlicesB.clone_any vb body W (hb.below hB) (by omega))
  have hlr := len_W3 rest
  have HPS := Lib.hid (fun (X : World) R M (hB : Below w.heap.size w X) (hR : R < X.heap.size) (hwR : w.heap.size ≤ R) => pseudo_ok m p h rest v R M X (hl.old hB) hc (by omega))
  have hB0 : Hid (∀ o, Below w.heap.size w (w.alloc o)) := fun o => (Below.refl _ _).alloc (Nat.le_refl _) _
  have HV := Lib.hid hv
  obtain ⟨av, cv, rfl, -⟩ := id hl
  obtain ⟨ab, cb, rfl, -⟩ := hb.open
  obtain ⟨lb, hlb⟩ : ∃ lb, body.length = lb := ⟨_, rfl⟩
  rw [hlb] at HCB hbl ⊢
  have HLB := Lib.hid hlb
  obtain ⟨n, hn⟩ : ∃ n, ((mN, m) :: (pN, p) :: (hN, h) :: rest).length = n := ⟨_, rfl⟩
  rw [hn] at HPS HV ⊢
  have HW3 := Lib.hid hw3
  have HP := Lib.hid hp
  clear hv hl hb hc hlr hw3 hlb hn hp
  have hmm := @run_makeMap Tryd.prog
  go_enter Tryd.func5, Tryd.ntmps5
  go_upto_region 2 with (first
    | (go_at_call 13; (with_reducible refine (HCB.out _ (hB0.out _)).mono ?_); rintro e w2 ⟨v2, rfl, hO2, hB2⟩; obtain ⟨a2, c2, rfl, -⟩ := (BytesAt.of_own hO2).open; rw [HLB.out] at hO2 ⊢; have HO2 := Lib.hid hO2; have HB2 := Lib.hid hB2; clear hO2 hB2)
    | fail)
  obtain ⟨R, hR⟩ : ∃ R, w2.heap.size = R := ⟨_, rfl⟩
  have hwR : w.heap.size < R := by have h1 := HB2.out.size; simp at h1; omega
  have hBX : Below w.heap.size w ((w2.alloc (.cells #[.string ⟨#[]⟩, .string ⟨#[]⟩, .string ⟨#[]⟩, .slice none 0 0, .slice a2 lb c2] 25)).alloc (.map #[] 0)) :=
    ((bstep (hB0.out _) HB2.out).alloc (by omega) _).alloc (by simp; omega) _
  have hm0 := MapIs.made (w2.alloc (.cells #[.string ⟨#[]⟩, .string ⟨#[]⟩, .string ⟨#[]⟩, .slice none 0 0, .slice a2 lb c2] 25)) Tryd.prog 9
  have hbox : ((w2.alloc (.cells #[.string ⟨#[]⟩, .string ⟨#[]⟩, .string ⟨#[]⟩, .slice none 0 0, .slice a2 lb c2] 25)).alloc (.map #[] 0)).heap[R]? = some (.cells #[.string ⟨#[]⟩, .string ⟨#[]⟩, .string ⟨#[]⟩, .slice none 0 0, .slice a2 lb c2] 25) := by
    rw [← hR, Below.heap_alloc _ _ _ (by simp)]; exact World.alloc_heap_new _ _
  have hzX : ((w2.alloc (.cells #[.string ⟨#[]⟩, .string ⟨#[]⟩, .string ⟨#[]⟩, .slice none 0 0, .slice a2 lb c2] 25)).alloc (.map #[] 0)).heap.size = R + 2 := by rw [World.size_alloc, World.size_alloc, hR]
  have hlow : ∀ k, k < R → ((w2.alloc (.cells #[.string ⟨#[]⟩, .string ⟨#[]⟩, .string ⟨#[]⟩, .slice none 0 0, .slice a2 lb c2] 25)).alloc (.map #[] 0)).heap[k]? = w2.heap[k]? := fun k hk => (Below.heap_alloc _ _ _ (by simp; omega)).trans (Below.heap_alloc _ _ _ (by omega))
  rw [World.size_alloc, hR] at hm0
  obtain ⟨X1, hpu1, hm1, hg1⟩ := run_put 49 9 48 keyedF Tryd.underlying49 (R + 1) _ hm0 (by decide) (.string ⟨#[58, 109, 101, 116, 104, 111, 100]⟩) (.pointer (some ⟨R, 0, none⟩)) _ (keyF mN (by decide)) trivial
  obtain ⟨X2, hpu2, hm2, hg2⟩ := run_put 49 9 48 keyedF Tryd.underlying49 (R + 1) _ hm1 (by show (1 : Nat) < 9223372036854775807; decide) (.string ⟨#[58, 112, 97, 116, 104]⟩) (.pointer (some ⟨R, 1, none⟩)) _ (keyF pN (by decide)) trivial
  obtain ⟨X3, hpu3, hm3, hg3⟩ := run_put 49 9 48 keyedF Tryd.underlying49 (R + 1) _ hm2 (by show (2 : Nat) < 9223372036854775807; decide) (.string ⟨#[58, 104, 111, 115, 116]⟩) (.pointer (some ⟨R, 2, none⟩)) _ (keyF hN (by decide)) trivial
  have hs1 := hg1.size
  have hs2 := hg2.size
  have hs3 := hg3.size
  rw [hzX] at hs1
  have hblk : ∀ k, k ≤ R → X3.heap[k]? = ((w2.alloc (.cells #[.string ⟨#[]⟩, .string ⟨#[]⟩, .string ⟨#[]⟩, .slice none 0 0, .slice a2 lb c2] 25)).alloc (.map #[] 0)).heap[k]? := fun k hk =>
    (hg3.block k (by omega) (fun e => by have := Option.some.inj e; omega)).trans ((hg2.block k (by omega) (fun e => by have := Option.some.inj e; omega)).trans (hg1.block k (by omega) (fun e => by have := Option.some.inj e; omega)))
  have hBX3 : Below w.heap.size w X3 := ⟨hg3.os.trans (hg2.os.trans (hg1.os.trans hBX.os)), hg3.tape.trans (hg2.tape.trans (hg1.tape.trans hBX.tape)), hg3.output.trans (hg2.output.trans (hg1.output.trans hBX.output)), by have := hBX.size; omega, fun k hk => (hblk k (by omega)).trans (hBX.block k hk)⟩
  have hb3 := (hblk R (Nat.le_refl _)).trans hbox
  have x0 : X3.cell? ⟨R, 0, none⟩ = some (.string ⟨#[]⟩) := by simp [World.cell?, hb3]
  have x1 : X3.cell? ⟨R, 1, none⟩ = some (.string ⟨#[]⟩) := by simp [World.cell?, hb3]
  have x2 : X3.cell? ⟨R, 2, none⟩ = some (.string ⟨#[]⟩) := by simp [World.cell?, hb3]
  have x3 : X3.cell? ⟨R, 3, none⟩ = some (.slice none 0 0) := by simp [World.cell?, hb3]
  have x4 : X3.cell? ⟨R, 4, none⟩ = some (.slice a2 lb c2) := by simp [World.cell?, hb3]
  have xf : ∀ i, X3.frozen? ⟨R, i, none⟩ = false := fun i => by simp [World.frozen?, hb3]
  have HQ := Lib.hid (HPS.out X3 R (R + 1) hBX3 (by omega) (by omega) hm3 (by omega) (by omega) ⟨_, x0⟩ ⟨_, x1⟩ ⟨_, x2⟩ xf (fun e => by have := HV.out _ e; omega))
  have HT : Hid (∀ i, X3.cell? ⟨w.heap.size, i, none⟩ = (#[Value.string ⟨#[]⟩, .string ⟨#[]⟩, .string ⟨#[]⟩, .slice none 0 0, .slice none 0 0] : Array Value)[i]? ∧ X3.frozen? ⟨w.heap.size, i, none⟩ = false) := fun i => by
    have hb : X3.heap[w.heap.size]? = some (.cells #[.string ⟨#[]⟩, .string ⟨#[]⟩, .string ⟨#[]⟩, .slice none 0 0, .slice none 0 0] 25) :=
      (hblk _ (by omega)).trans ((hlow _ hwR).trans ((HB2.out.block _ (by simp)).trans (World.alloc_heap_new _ _)))
    constructor
    · simp [World.cell?, hb]
    · simp [World.frozen?, hb]
  have HOB : Hid (BytesL.Own X3 (w.heap.size + 1) (.slice a2 lb c2) body ∧ ∀ k, (Value.slice a2 lb c2).ownBlock = some k → k < R) := by
    have h := HO2.out
    rw [World.size_alloc] at h
    refine ⟨?_, fun k hk => by have := (World.ownsRow.lt h k hk).2; omega⟩
    refine h.belowOf (B := R) ⟨hg3.os.trans (hg2.os.trans hg1.os), hg3.tape.trans (hg2.tape.trans hg1.tape), hg3.output.trans (hg2.output.trans hg1.output), by omega, fun k hk => (hblk k (by omega)).trans (hlow k hk)⟩ fun k hk => ?_
    have := (World.ownsRow.lt h k hk).2
    omega
  have X3E := Lib.hid (And.intro x3 (And.intro x4 (And.intro xf hBX3)))
  have HRR : Hid (w.heap.size < R ∧ R + 2 ≤ X3.heap.size) := ⟨hwR, by omega⟩
  clear hm0 hm1 hm2 hm3 hg1 hg2 hg3 hs1 hs2 hs3 hblk hBX3 hb3 x0 x1 x2 x3 x4 xf hBX hbox hzX hlow hwR
  rw [hR]
  go_upto_region 5 with (first
    | (go_at_call 14; (with_reducible refine (HQ.out).mono ?_); rintro e w4 ⟨ra, rn, rc, S, rfl, hO4, hP4⟩; have HO4 := Lib.hid hO4; have HP4 := Lib.hid hP4; clear hO4 hP4)
    | fail)
  obtain ⟨ra', rc', er, -⟩ := HO4.out.slice
  simp only [Value.slice.injEq] at er
  obtain ⟨-, hrn, -⟩ := er
  have HRN := Lib.hid hrn
  have hlr := len_W3 rest
  have hrn63 : (rn : Int) ≤ 9223372036854775807 := by have := HW3.out; omega
  have hA0 : Hid (AskL w4 w4 R m p h (.slice none 0 0) (.slice a2 lb c2) []) := by
    obtain ⟨e3, e4, ef, -⟩ := X3E.out
    obtain ⟨v0, k0, k0'⟩ := HP4.out.c0
    obtain ⟨v1, k1, k1'⟩ := HP4.out.c1
    obtain ⟨v2, k2, k2'⟩ := HP4.out.c2
    obtain rfl := k0' (by decide)
    obtain rfl := k1' (by decide)
    obtain rfl := k2' (by decide)
    exact ⟨k0, k1, k2, (HP4.out.old 3 (by decide)).trans e3, (HP4.out.old 4 (by decide)).trans e4, fun i => (HP4.out.fr i).trans (ef i), RowsK.Own.nil _ _ _ _, fun k _ _ => rfl, Nat.le_refl _, rfl, rfl, rfl, by have h1 := HP4.out.sz; have h2 := HRR.out.2; omega⟩
  have HTZ : Hid (∀ i, w4.cell? ⟨w.heap.size, i, none⟩ = (#[Value.string ⟨#[]⟩, .string ⟨#[]⟩, .string ⟨#[]⟩, .slice none 0 0, .slice none 0 0] : Array Value)[i]? ∧ w4.frozen? ⟨w.heap.size, i, none⟩ = false) := fun i => by
    have hb := HP4.out.blk w.heap.size (by have := HRR.out; omega) (by have := HRR.out.1; omega)
    exact ⟨(World.cell?_of_block (a := ⟨w.heap.size, i, none⟩) hb).trans (HT.out i).1, (World.frozen?_of_block (a := ⟨w.heap.size, i, none⟩) hb).trans (HT.out i).2⟩
  have HBW4 : Hid (Below w.heap.size w w4) := by
    obtain ⟨-, -, -, hb⟩ := X3E.out
    have hr := HRR.out
    exact hb.trans ⟨HP4.out.os, HP4.out.tape, HP4.out.out, HP4.out.sz, fun k hk => HP4.out.blk k (by omega) (by omega)⟩
  have HAR := Lib.hid HO4.out.at_
  have HOB4 : Hid (BytesL.Own w4 (w.heap.size + 1) (.slice a2 lb c2) body ∧ ∀ k, (Value.slice a2 lb c2).ownBlock = some k → k < R) := by
    refine ⟨?_, HOB.out.2⟩
    have hr := HRR.out
    exact HOB.out.1.belowOf (B := R) ⟨HP4.out.os, HP4.out.tape, HP4.out.out, HP4.out.sz, fun k hk => HP4.out.blk k (by omega) (by omega)⟩ HOB.out.2
  have HT5 : Hid (Held5 w.heap.size w4 (.string ⟨#[]⟩) (.string ⟨#[]⟩) (.string ⟨#[]⟩) (.slice none 0 0) (.slice none 0 0)) := by
    have hz := HP4.out.sz
    have hr := HRR.out
    exact ⟨by omega, (HTZ.out 0).1, (HTZ.out 1).1, (HTZ.out 2).1, (HTZ.out 3).1, (HTZ.out 4).1, fun i => (HTZ.out i).2⟩
  have HR4 := Lib.hid (And.intro HRR.out.1 (show R < w4.heap.size by have h1 := HP4.out.sz; have h2 := HRR.out.2; omega))
  clear hlr hrn
  go_wp2_with fail
  go_loopw [9, 32] (fun v9 iv wr => ∃ (i : Nat) (s : Option Nat × List Fld) (fa : Option Addr) (fq fc : Nat), iv = .int .i64 i ∧ i ≤ rn ∧ v9 = .int .i64 (ckV s.1) ∧ Hid (askRun (itoaB lb) (none, []) (rest.take i) = some s ∧ ckOk s ∧ W3 s.2 ≤ W3 (rest.take i) ∧ AskL w4 wr R m p h (.slice fa fq fc) (.slice a2 lb c2) s.2)) (fun _ iv _ => rn - (intOf iv).toNat)
  case atStart => exact ⟨0, (none, []), none, 0, 0, rfl, by omega, rfl, Lib.hid ⟨rfl, (fun k hk => by cases hk), by simp [W3], hA0.out⟩⟩
  case round =>
    obtain ⟨i, s, fa, fq, fc, rfl, hi, rfl, HR⟩ := hrel
    obtain ⟨wo, hwo⟩ : ∃ wo : World, wo = wr := ⟨_, rfl⟩
    subst hwo
    by_cases hlt : i < rn
    · obtain ⟨f, hf⟩ : ∃ f, rest[i]? = some f := ⟨_, List.getElem?_eq_getElem (by have := HRN.out; omega)⟩
      have htk := askRun_take hf HR.out.1
      have hW3s := W3_step HR.out.2.1 f
      have hW3t : W3 (rest.take (i + 1)) = W3 (rest.take i) + (f.2.size + 3) := by
        obtain ⟨hi2, hf2⟩ := List.getElem?_eq_some_iff.1 hf
        rw [List.take_succ_eq_append_getElem hi2, W3_snoc, hf2]
      have hW3m : W3 (rest.take (i + 1)) ≤ W3 rest := by
        have hh := W3_app (rest.take (i + 1)) (rest.drop (i + 1))
        rw [List.take_append_drop] at hh
        omega
      have hck := ckOk_step HR.out.2.1 f
      have hA := HR.out.2.2.2
      have hzo := hA.sz
      have hR4 := HR4.out
      obtain ⟨ra3, rc3, er, hcl⟩ : ∃ rb ro, ra = some ⟨rb, ro, none⟩ ∧ (∀ j, j < 2 → w4.cell? ⟨rb, ro + (i * 2 + j), none⟩ = (encF.enc f)[j]?) ∧ rb < w4.heap.size ∧ rb ≠ R := by
        obtain ⟨a', c', e', -, -, -, hel⟩ := HAR.out
        simp only [Value.slice.injEq] at e'
        obtain ⟨rfl, -, -⟩ := e'
        obtain ⟨hi2, hf2⟩ := List.getElem?_eq_some_iff.1 hf
        obtain ⟨b', o', e2, hb', hc'⟩ := hel i hi2
        rw [hf2] at hc'
        refine ⟨b', o', e2, hc', hb', fun e3 => ?_⟩
        have h1 := (HO4.out.lt b' (by rw [e2]; rfl)).1
        have h2 := HRR.out.2
        omega
      subst er
      obtain ⟨hcl, hrb, hrR⟩ := hcl
      obtain ⟨xa, xb⟩ := f
      have e0 : wo.cell? ⟨ra3, rc3 + i * 2, none⟩ = some (.string xa) := (World.cell?_of_block (a := ⟨ra3, rc3 + (i * 2 + 0), none⟩) (hA.blk ra3 hrb hrR)).trans (hcl 0 (by decide))
      have e1 : wo.cell? ⟨ra3, rc3 + i * 2 + 1, none⟩ = some (.string xb) := (World.cell?_of_block (a := ⟨ra3, rc3 + (i * 2 + 1), none⟩) (hA.blk ra3 hrb hrR)).trans (hcl 1 (by decide))
      have hxs : xb.size ≤ 8000000 := by have h1 := HW3.out; simp only at hW3t; omega
      have HTK := Lib.hid htk
      have HCK := Lib.hid hck
      have HWS := Lib.hid (And.intro hW3s (And.intro hW3t hW3m))
      have HF := Lib.hid hf
      have HA := Lib.hid hA
      have HXS := Lib.hid hxs
      have HZO := Lib.hid hzo
      have hi0 : (0 : Int) ≤ (i : Int) := by omega
      have hi1 : (i : Int) < (rn : Int) := by omega
      have HBWo : Hid (Below w.heap.size w wo) := HBW4.out.trans ⟨hA.os, hA.tape, hA.outp, hA.sz, fun k hk => hA.blk k (by omega) (by omega)⟩
      have hTo := hA.blk w.heap.size (by omega) (by omega)
      have HTW := Lib.hid (HT5.out.keep hA.sz hTo)
      clear htk hW3s hW3t hW3m hck hf hA hcl hrb hrR hxs hzo hR4 hTo
      go_upto_region 12 with fail
      have d0 : (wo.alloc (.cells #[.string xa, .string xb] 33)).cell? ⟨wo.heap.size, 0, none⟩ = some (.string xa) := by simp
      have d1 : (wo.alloc (.cells #[.string xa, .string xb] 33)).cell? ⟨wo.heap.size, 1, none⟩ = some (.string xb) := by simp
      have HB1 : Hid (Below wo.heap.size wo (wo.alloc (.cells #[.string xa, .string xb] 33))) := (Below.refl _ _).alloc (Nat.le_refl _) _
      have hz1 : wo.heap.size < (wo.alloc (.cells #[.string xa, .string xb] 33)).heap.size := by simp
      obtain ⟨w1, hw1⟩ : ∃ w1, wo.alloc (.cells #[.string xa, .string xb] 33) = w1 := ⟨_, rfl⟩
      rw [hw1] at d0 d1 HB1 hz1 ⊢
      clear hw1 e0 e1
      have HBT := Lib.hid (between_any xa)
      have HIT := Lib.hid (fun W (hB : Below w.heap.size w W) => itoa_any (lb : Int) (by omega) (by omega) W (HP.out.old hB))
      have hbad : badF (itoaB lb) (xa, xb) = (betweenB xa || isHost xa || (isLength xa && (xb.toList != (itoaB lb).toList))) := rfl
      have HBD := Lib.hid hbad
      have HSL : Hid (itoaB lb = itoaB lb) := rfl
      obtain ⟨sl, hsl⟩ : ∃ sl, itoaB lb = sl := ⟨_, rfl⟩
      have HSL2 := Lib.hid hsl
      rw [hsl] at HIT HBD HTK
      clear hbad hsl HSL
      go_cut [48] from 49 to 69 (fun v48 wx => v48 = .bool (badF sl (xa, xb)) ∧ Hid (Below w1.heap.size w1 wx))
      case first =>
        have q0 : ∀ n : After w1, n.1.cell? ⟨wo.heap.size, 0, none⟩ = some (.string xa) := fun n => n.cell d0
        have q1 : ∀ n : After w1, n.1.cell? ⟨wo.heap.size, 1, none⟩ = some (.string xb) := fun n => n.cell d1
        have HBW1 := Lib.hid (bstep HBWo.out HB1.out)
        clear d0 d1
        rcases hb1 : betweenB xa with _ | _
        · rcases hb2 : (xa.toList == [104, 111, 115, 116]) with _ | _
          · rcases hb3 : (xa.toList == [108, 101, 110, 103, 116, 104]) with _ | _
            · have HB1B := Lib.hid hb1
              have HB2B := Lib.hid hb2
              have HB3B := Lib.hid hb3
              rw [hb1] at HBT
              refine wp_region_after w1 (Below.refl _ _) (by kernel_rfl) (by kernel_rfl) ?_
              repeat (go_big_quiet_step (first | (go_at_call 15; refine After.call ((HBT.out _).mono fun e w' h => ⟨h.1, by rw [← h.2]; exact Below.refl _ _⟩)) | (go_at_call 16; refine After.call (HIT.out _ (HBW1.out.trans_below (Subtype.property _) (Nat.le_refl _))))))
              refine wpQuiet_nil ?_
              rintro w5 ⟨n5, rfl⟩
              obtain ⟨w5, hB5⟩ := n5
              simp only
              have HB5 := Lib.hid hB5
              clear hB5 q0 q1
              go_wp2_with fail
              go_meet
              case rel => exact ⟨by rw [HBD.out]; unfold isHost isLength; rw [HB1B.out, HB2B.out, HB3B.out]; rfl, HB5.out⟩
            · rcases hb4 : (xb.toList != sl.toList) with _ | _
              · have HB1B := Lib.hid hb1
                have HB2B := Lib.hid hb2
                have HB3B := Lib.hid hb3
                have HB4B := Lib.hid hb4
                rw [hb1] at HBT
                refine wp_region_after w1 (Below.refl _ _) (by kernel_rfl) (by kernel_rfl) ?_
                repeat (go_big_quiet_step (first | (go_at_call 15; refine After.call ((HBT.out _).mono fun e w' h => ⟨h.1, by rw [← h.2]; exact Below.refl _ _⟩)) | (go_at_call 16; refine After.call (HIT.out _ (HBW1.out.trans_below (Subtype.property _) (Nat.le_refl _))))))
                refine wpQuiet_nil ?_
                rintro w5 ⟨n5, rfl⟩
                obtain ⟨w5, hB5⟩ := n5
                simp only
                have HB5 := Lib.hid hB5
                clear hB5 q0 q1
                go_wp2_with fail
                go_meet
                case rel => exact ⟨by rw [HBD.out]; unfold isHost isLength; rw [HB1B.out, HB2B.out, HB3B.out]; rfl, HB5.out⟩
              · have HB1B := Lib.hid hb1
                have HB2B := Lib.hid hb2
                have HB3B := Lib.hid hb3
                have HB4B := Lib.hid hb4
                rw [hb1] at HBT
                refine wp_region_after w1 (Below.refl _ _) (by kernel_rfl) (by kernel_rfl) ?_
                repeat (go_big_quiet_step (first | (go_at_call 15; refine After.call ((HBT.out _).mono fun e w' h => ⟨h.1, by rw [← h.2]; exact Below.refl _ _⟩)) | (go_at_call 16; refine After.call (HIT.out _ (HBW1.out.trans_below (Subtype.property _) (Nat.le_refl _))))))
                refine wpQuiet_nil ?_
                rintro w5 ⟨n5, rfl⟩
                obtain ⟨w5, hB5⟩ := n5
                simp only
                have HB5 := Lib.hid hB5
                clear hB5 q0 q1
                go_wp2_with fail
                go_meet
                case rel => exact ⟨by rw [HBD.out]; unfold isHost isLength; rw [HB1B.out, HB2B.out, HB3B.out]; rfl, HB5.out⟩
          · have HB1B := Lib.hid hb1
            have HB2B := Lib.hid hb2
            rw [hb1] at HBT
            refine wp_region_after w1 (Below.refl _ _) (by kernel_rfl) (by kernel_rfl) ?_
            repeat (go_big_quiet_step (first | (go_at_call 15; refine After.call ((HBT.out _).mono fun e w' h => ⟨h.1, by rw [← h.2]; exact Below.refl _ _⟩)) | (go_at_call 16; refine After.call (HIT.out _ (HBW1.out.trans_below (Subtype.property _) (Nat.le_refl _))))))
            refine wpQuiet_nil ?_
            rintro w5 ⟨n5, rfl⟩
            obtain ⟨w5, hB5⟩ := n5
            simp only
            have HB5 := Lib.hid hB5
            clear hB5 q0 q1
            go_wp2_with fail
            go_meet
            case rel => exact ⟨by rw [HBD.out]; unfold isHost isLength; rw [HB1B.out, HB2B.out]; rfl, HB5.out⟩
        · have HB1B := Lib.hid hb1
          rw [hb1] at HBT
          refine wp_region_after w1 (Below.refl _ _) (by kernel_rfl) (by kernel_rfl) ?_
          repeat (go_big_quiet_step (first | (go_at_call 15; refine After.call ((HBT.out _).mono fun e w' h => ⟨h.1, by rw [← h.2]; exact Below.refl _ _⟩)) | (go_at_call 16; refine After.call (HIT.out _ (HBW1.out.trans_below (Subtype.property _) (Nat.le_refl _))))))
          refine wpQuiet_nil ?_
          rintro w5 ⟨n5, rfl⟩
          obtain ⟨w5, hB5⟩ := n5
          simp only
          have HB5 := Lib.hid hB5
          clear hB5 q0 q1
          go_wp2_with fail
          go_meet
          case rel => exact ⟨by rw [HBD.out]; unfold isHost isLength; rw [HB1B.out]; rfl, HB5.out⟩
      case rest =>
        obtain ⟨rfl, HBX⟩ := hcut
        have hAc := (HA.out.step HB1.out).step HBX.out
        have hTc := (HTW.out.step HB1.out HTW.out.lt).step HBX.out (by have := HTW.out.lt; omega)
        have d0' := (HBX.out.cell (p := ⟨wo.heap.size, 0, none⟩) hz1).trans d0
        have d1' := (HBX.out.cell (p := ⟨wo.heap.size, 1, none⟩) hz1).trans d1
        have HBWc := Lib.hid (bstep (bstep HBWo.out HB1.out) HBX.out)
        have hzc : wo.heap.size < wc.heap.size := by have := HBX.out.size; omega
        clear d0 d1
        rcases hbf : badF sl (xa, xb) with _ | _
        · have htk := HTK.out
          rw [hbf, if_neg (by simp)] at htk
          have HTK2 := Lib.hid htk
          have HAc := Lib.hid hAc
          have a3 := hAc.c3
          have aF := hAc.f
          clear htk hbf hTc HBD
          rcases hln : isLength xa with _ | _
          · have hln2 : (xa.toList == [108, 101, 110, 103, 116, 104]) = false := hln
            rcases hco : isCookie xa with _ | _
            · have hco2 : (xa.toList == [99, 111, 111, 107, 105, 101]) = false := hco
              have hst : askStep s (xa, xb) = (s.1, s.2 ++ [(xa, xb)]) := by unfold askStep; rw [hln, hco]; rfl
              have HST := Lib.hid hst
              have hfq : fq = s.2.length := by obtain ⟨a', c', e', -⟩ := HAc.out.own.slice; simp only [Value.slice.injEq] at e'; exact e'.2.1
              have HFQ := Lib.hid hfq
              have hle : fq ≤ 8000000 := by have h1 := len_W3 s.2; have h2 := HR.out.2.2.1; have h3 := HWS.out.2; have h4 := HW3.out; omega
              have HLE := Lib.hid hle
              have HOW : Hid (RowsK.Own encF (wc.alloc (.cells #[.string xa, .string xb] 33)) w4.heap.size 33 (.slice fa fq fc) s.2) := HAc.out.own.alloc _
              have HAL : Hid (AskL w4 (wc.alloc (.cells #[.string xa, .string xb] 33)) R m p h (.slice fa fq fc) (.slice a2 lb c2) s.2) := HAc.out.step ((Below.refl _ _).alloc (Nat.le_refl _) _)
              have HAT2 : Hid (At encF (wc.alloc (.cells #[.string xa, .string xb] 33)) (.slice (some ⟨wc.heap.size, 0, none⟩) 1 1) [(xa, xb)]) := (RowsK.Own.lit (E := encF) (b := 0) (e := 33) wc #[.string xa, .string xb] [(xa, xb)] (Nat.zero_le _) (by simp) rfl).at_
              have hRz := HR4.out
              clear hst hln hco hfq hle
              go_wp2_with (first
                | (at_builtin; refine RowsK.wpList_append elemF rfl _ _ rfl w4.heap.size _ rfl HOW.out _ [(xa, xb)] rfl HAT2.out (by have h1 := HFQ.out; have h2 := HLE.out; show s.2.length + 1 < _; omega) HAL.out.sz ?_; intro v9 w9 hO9 hB9 hg9 hat9; obtain ⟨a9, c9, e9, -⟩ := hO9.slice; rw [show (s.2 ++ [(xa, xb)]).length = fq + 1 from (by have := HFQ.out; rw [List.length_append, List.length_singleton]; omega)] at e9; subst e9; have bR9 : w9.heap[R]? = (wc.alloc (.cells #[.string xa, .string xb] 33)).heap[R]? := hg9.block R (by have := HAL.out.lt; have := HAL.out.sz; omega) (fun e => by have h1 := (HOW.out.lt R e.symm).1; omega); have r3 := (World.cell?_of_block (a := ⟨R, 3, none⟩) bR9).trans HAL.out.c3; have rf := (World.frozen?_of_block (a := ⟨R, 3, none⟩) bR9).trans (HAL.out.f 3); have HO9 := Lib.hid hO9; have HG9 := Lib.hid hg9; clear hO9 hB9 hg9 hat9 bR9)
                | fail)
              go_roundw
              case rel =>
                refine ⟨i + 1, (s.1, s.2 ++ [(xa, xb)]), a9, fq + 1, c9, by go_num, by omega, rfl, Lib.hid ⟨by rw [HSL2.out]; exact HTK2.out.trans (by rw [HST.out]), by have h := HCK.out; rw [HST.out] at h; exact h, by have h := HWS.out; rw [HST.out] at h; have h2 := HR.out.2.2.1; simp only at h ⊢; omega, HAL.out.app HG9.out HO9.out⟩⟩
              case measure => simp [intOf]; omega
            · have hco2 : (xa.toList == [99, 111, 111, 107, 105, 101]) = true := hco
              rcases hs1 : s.1 with _ | k
              · have hck0 : ckV s.1 = -1 := by rw [hs1]; rfl
                rw [hs1] at hck0
                have hst : askStep s (xa, xb) = (some s.2.length, s.2 ++ [(xa, xb)]) := by unfold askStep; rw [hln, hco, hs1]; rfl
                have HST := Lib.hid hst
                have hfq : fq = s.2.length := by obtain ⟨a', c', e', -⟩ := HAc.out.own.slice; simp only [Value.slice.injEq] at e'; exact e'.2.1
                have HFQ := Lib.hid hfq
                have hle : fq ≤ 8000000 := by have h1 := len_W3 s.2; have h2 := HR.out.2.2.1; have h3 := HWS.out.2; have h4 := HW3.out; omega
                have HLE := Lib.hid hle
                have HOW : Hid (RowsK.Own encF (wc.alloc (.cells #[.string xa, .string xb] 33)) w4.heap.size 33 (.slice fa fq fc) s.2) := HAc.out.own.alloc _
                have HAL : Hid (AskL w4 (wc.alloc (.cells #[.string xa, .string xb] 33)) R m p h (.slice fa fq fc) (.slice a2 lb c2) s.2) := HAc.out.step ((Below.refl _ _).alloc (Nat.le_refl _) _)
                have HAT2 : Hid (At encF (wc.alloc (.cells #[.string xa, .string xb] 33)) (.slice (some ⟨wc.heap.size, 0, none⟩) 1 1) [(xa, xb)]) := (RowsK.Own.lit (E := encF) (b := 0) (e := 33) wc #[.string xa, .string xb] [(xa, xb)] (Nat.zero_le _) (by simp) rfl).at_
                have hRz := HR4.out
                clear hst hln hco hs1 hfq hle
                go_wp2_with (first
                  | (at_builtin; refine RowsK.wpList_append elemF rfl _ _ rfl w4.heap.size _ rfl HOW.out _ [(xa, xb)] rfl HAT2.out (by have h1 := HFQ.out; have h2 := HLE.out; show s.2.length + 1 < _; omega) HAL.out.sz ?_; intro v9 w9 hO9 hB9 hg9 hat9; obtain ⟨a9, c9, e9, -⟩ := hO9.slice; rw [show (s.2 ++ [(xa, xb)]).length = fq + 1 from (by have := HFQ.out; rw [List.length_append, List.length_singleton]; omega)] at e9; subst e9; have bR9 : w9.heap[R]? = (wc.alloc (.cells #[.string xa, .string xb] 33)).heap[R]? := hg9.block R (by have := HAL.out.lt; have := HAL.out.sz; omega) (fun e => by have h1 := (HOW.out.lt R e.symm).1; omega); have r3 := (World.cell?_of_block (a := ⟨R, 3, none⟩) bR9).trans HAL.out.c3; have rf := (World.frozen?_of_block (a := ⟨R, 3, none⟩) bR9).trans (HAL.out.f 3); have HO9 := Lib.hid hO9; have HG9 := Lib.hid hg9; clear hO9 hB9 hg9 hat9 bR9)
                  | fail)
                go_roundw
                case rel =>
                  refine ⟨i + 1, (some s.2.length, s.2 ++ [(xa, xb)]), a9, fq + 1, c9, by go_num, by omega, by rw [HFQ.out]; rfl, Lib.hid ⟨by rw [HSL2.out]; exact HTK2.out.trans (by rw [HST.out]), by have h := HCK.out; rw [HST.out] at h; exact h, by have h := HWS.out; rw [HST.out] at h; have h2 := HR.out.2.2.1; simp only at h ⊢; omega, HAL.out.app HG9.out HO9.out⟩⟩
                case measure => simp [intOf]; omega
              · have hkl := HR.out.2.1 k hs1
                have hst : askStep s (xa, xb) = (some k, s.2.set k ((s.2.getD k default).1, (s.2.getD k default).2 ++ (crumbB ++ xb))) := by unfold askStep; rw [hln, hco, hs1]; rfl
                have HST := Lib.hid hst
                have hO := HAc.out.own
                obtain ⟨g, c8, e8, -, -, hgb, -, -⟩ := hO.slice1 s.2.length rfl (by omega)
                simp only [Value.slice.injEq] at e8
                obtain ⟨rfl, rfl, rfl⟩ := e8
                have hcl := (cells_of hO (j := k) hkl).2.2
                have hfz := own_frozen hO (k * 2 + 1)
                have hsy : (s.2.getD k default).2.size ≤ 8000000 := by have h1 := W3_mem hkl; have h2 := HR.out.2.2.1; have h3 := HWS.out.2; have h4 := HW3.out; omega
                obtain ⟨yv, hyv⟩ : ∃ yv, (s.2.getD k default).2 = yv := ⟨_, rfl⟩
                rw [hyv] at hcl hsy HST
                have HYV := Lib.hid hyv
                have hA1 : ∀ W, (Op.stringOp .add ⟨#[59, 32]⟩ xb).run Tryd.prog W = .ok (.string (crumbB ++ xb)) W := fun W => run_string_add_sum W _ _ (by have := HXS.out; have e : (⟨#[59, 32]⟩ : ByteArray).size = 2 := rfl; omega)
                have hA2 : ∀ W, (Op.stringOp .add yv (crumbB ++ xb)).run Tryd.prog W = .ok (.string (yv ++ (crumbB ++ xb))) W := fun W => run_string_add_sum W _ _ (by have := HXS.out; rw [ByteArray.size_append]; have e : crumbB.size = 2 := rfl; omega)
                obtain ⟨Z, hZ⟩ : ∃ Z, crumbB ++ xb = Z := ⟨_, rfl⟩
                rw [hZ] at hA1 hA2 HST
                have HZ := Lib.hid hZ
                obtain ⟨sv, hsv⟩ : ∃ sv, yv ++ Z = sv := ⟨_, rfl⟩
                rw [hsv] at hA2 HST
                have HSV := Lib.hid hsv
                have hk0 : (0 : Int) ≤ (k : Int) := by omega
                have hk1 : (k : Int) < (s.2.length : Int) := by omega
                have hck0 : ckV s.1 = (k : Int) := by rw [hs1]; rfl
                rw [hs1] at hck0
                have HKL := Lib.hid hkl
                clear hst hln hco hs1 hO hgb hyv hZ hsv hsy hkl
                go_upto_region 16 with fail
                go_still_tail 12, (by kernel_rfl)
                go_wp2_with fail
                go_roundw
                case rel =>
                  refine ⟨i + 1, (some k, s.2.set k ((s.2.getD k default).1, sv)), some ⟨g, 0, none⟩, s.2.length, fc, by go_num, by omega, rfl, Lib.hid ⟨by rw [HSL2.out]; exact HTK2.out.trans (by rw [HST.out]), by have h := HCK.out; rw [HST.out] at h; exact h, by have h := HWS.out; rw [HST.out] at h; have h2 := HR.out.2.2.1; simp only at h ⊢; omega, (HAc.out.set HKL.out sv).step (Below.refl _ _).drew⟩⟩
                case measure => simp [intOf]; omega
          · have hln2 : (xa.toList == [108, 101, 110, 103, 116, 104]) = true := hln
            have hst : askStep s (xa, xb) = s := by unfold askStep; rw [hln]; rfl
            have HST := Lib.hid hst
            clear hst hln
            go_wp2_with fail
            go_roundw
            case rel =>
              refine ⟨i + 1, s, fa, fq, fc, by go_num, by omega, rfl, Lib.hid ⟨by rw [HSL2.out]; exact HTK2.out.trans (by rw [HST.out]), HR.out.2.1, by have h1 := HWS.out; have h2 := HR.out.2.2.1; omega, HAc.out⟩⟩
            case measure => simp [intOf]; omega
        · have z0 := hTc.c0
          have z1 := hTc.c1
          have z2 := hTc.c2
          have z3 := hTc.c3
          have z4 := hTc.c4
          have zf := hTc.f
          have HPT := Lib.hid (hTc.put (.string ⟨#[]⟩) (.string ⟨#[]⟩) (.string ⟨#[]⟩) (.slice none 0 0) (.slice none 0 0))
          have htk := HTK.out
          rw [hbf, if_pos rfl] at htk
          have hall := askRun_stop sl (rest.take (i + 1)) (none, []) (rest.drop (i + 1)) htk
          rw [List.take_append_drop] at hall
          have HALL := Lib.hid hall
          clear hTc hAc htk hall hbf HBD
          go_wp2_with fail
          have hp5 := HPT.out
          have g0 := hp5.c0
          have g1 := hp5.c1
          have g2 := hp5.c2
          have g3 := hp5.c3
          have g4 := hp5.c4
          refine bodyPost_ret (v := .tuple #[rqZero, .iface 52 (.int .i64 3)]) (by simp [rqZero, results, Tryd.results5, go_sem, g0, g1, g2, g3, g4]) rfl ⟨((((HBWc.out.setCell (Nat.le_refl _) _).setCell (Nat.le_refl _) _).setCell (Nat.le_refl _) _).setCell (Nat.le_refl _) _).setCell (Nat.le_refl _) _, .inl ⟨by rw [HLB.out, HSL2.out]; exact HALL.out, rfl⟩⟩
    · obtain rfl : i = rn := by omega
      have hr := HR.out.1
      rw [List.take_of_length_le (by have := HRN.out; omega)] at hr
      have hA := HR.out.2.2.2
      have hR4 := HR4.out
      have hT := HT5.out.keep hA.sz (hA.blk w.heap.size (by omega) (by omega))
      have hbo : BytesL.Own wo (w.heap.size + 1) (.slice a2 lb c2) body := HOB4.out.1.belowOf (B := R) ⟨hA.os, hA.tape, hA.outp, hA.sz, fun k hk => hA.blk k (by omega) (by omega)⟩ HOB4.out.2
      have HCA := Lib.hid (checkAsk_any ⟨m, p, h, s.2, body⟩ (.slice fa fq fc) (.slice a2 lb c2) wo hA.own.at_ (BytesAt.of_own hbo))
      have HBW : Hid (Below w.heap.size w wo) := HBW4.out.trans ⟨hA.os, hA.tape, hA.outp, hA.sz, fun k hk => hA.blk k (by omega) (by omega)⟩
      have HRS := Lib.hid hr
      have HA := Lib.hid hA
      have HTW := Lib.hid hT
      have HBO := Lib.hid hbo
      have a0 := hA.c0
      have a1 := hA.c1
      have a2' := hA.c2
      have a3 := hA.c3
      have a4 := hA.c4
      unfold rqV at HCA
      simp only at HCA
      have hzo := hA.sz
      clear hr hA hT hbo
      by_cases hk : askE ⟨m, p, h, s.2, body⟩ = 0
      · rw [hk, errV0] at HCA
        have HK := Lib.hid hk
        clear hk
        go_wp2_with (first
          | (go_at_call 11; (with_reducible refine HCA.out.mono ?_); rintro e w9 ⟨rfl, hB9⟩; have HA9 := HA.out.step hB9; have HT9 := HTW.out.step hB9 HTW.out.lt; have HB9 := Lib.hid hB9; have y0 := HA9.c0; have y1 := HA9.c1; have y2 := HA9.c2; have y3 := HA9.c3; have y4 := HA9.c4; have z0 := HT9.c0; have z1 := HT9.c1; have z2 := HT9.c2; have z3 := HT9.c3; have z4 := HT9.c4; have zf := HT9.f; have HA9 := Lib.hid HA9; have HPT := Lib.hid (HT9.put (.string m) (.string p) (.string h) (.slice fa fq fc) (.slice a2 lb c2)); clear hB9 HT9)
          | fail)
        have hp5 := HPT.out
        have g0 := hp5.c0
        have g1 := hp5.c1
        have g2 := hp5.c2
        have g3 := hp5.c3
        have g4 := hp5.c4
        have hO9 := HA9.out.own
        have hb9 := HBO.out.below HB9.out
        have hr4 := HR4.out
        refine bodyPost_ret (v := .tuple #[.agg #[.string m, .string p, .string h, .slice fa fq fc, .slice a2 lb c2], .nilIface]) (by simp [results, Tryd.results5, go_sem, g0, g1, g2, g3, g4]) rfl ⟨(((((HBW.out.trans (HB9.out.mono (by have := HBW.out.size; omega))).setCell (Nat.le_refl _) _).setCell (Nat.le_refl _) _).setCell (Nat.le_refl _) _).setCell (Nat.le_refl _) _).setCell (Nat.le_refl _) _, .inr ⟨s, by rw [HLB.out]; exact HRS.out, .inr ⟨HK.out, _, _, _, _, _, _, rfl, ?_, ?_⟩⟩⟩
        · have hne : ∀ q, (Value.slice fa fq fc).ownBlock = some q → w.heap.size ≠ q := fun q hq e => by have := (hO9.lt q hq).1; omega
          exact (((((hO9.setCell _ _ fun e => hne _ e rfl).setCell _ _ fun e => hne _ e rfl).setCell _ _ fun e => hne _ e rfl).setCell _ _ fun e => hne _ e rfl).setCell _ _ fun e => hne _ e rfl).at_
        · exact BytesAt.of_own (((((hb9.setLow _ (by simp only; omega) _).setLow _ (by simp only; omega) _).setLow _ (by simp only; omega) _).setLow _ (by simp only; omega) _).setLow _ (by simp only; omega) _)
      · rw [errVk hk] at HCA
        have HK := Lib.hid hk
        obtain ⟨ke, hke⟩ : ∃ ke, askE ⟨m, p, h, s.2, body⟩ = ke := ⟨_, rfl⟩
        rw [hke] at HCA
        have HKE := Lib.hid hke
        clear hk hke
        go_wp2_with (first
          | (go_at_call 11; (with_reducible refine HCA.out.mono ?_); rintro e w9 ⟨rfl, hB9⟩; have HA9 := HA.out.step hB9; have HT9 := HTW.out.step hB9 HTW.out.lt; have HB9 := Lib.hid hB9; have y0 := HA9.c0; have y1 := HA9.c1; have y2 := HA9.c2; have y3 := HA9.c3; have y4 := HA9.c4; have z0 := HT9.c0; have z1 := HT9.c1; have z2 := HT9.c2; have z3 := HT9.c3; have z4 := HT9.c4; have zf := HT9.f; have HA9 := Lib.hid HA9; have HPT := Lib.hid (HT9.put (.string ⟨#[]⟩) (.string ⟨#[]⟩) (.string ⟨#[]⟩) (.slice none 0 0) (.slice none 0 0)); clear hB9 HT9)
          | fail)
        have hp5 := HPT.out
        have g0 := hp5.c0
        have g1 := hp5.c1
        have g2 := hp5.c2
        have g3 := hp5.c3
        have g4 := hp5.c4
        exact bodyPost_ret (v := .tuple #[rqZero, .iface 52 (.int .i64 ke)]) (by simp [rqZero, results, Tryd.results5, go_sem, g0, g1, g2, g3, g4]) rfl ⟨(((((HBW.out.trans (HB9.out.mono (by have := HBW.out.size; omega))).setCell (Nat.le_refl _) _).setCell (Nat.le_refl _) _).setCell (Nat.le_refl _) _).setCell (Nat.le_refl _) _).setCell (Nat.le_refl _) _, .inr ⟨s, by rw [HLB.out]; exact HRS.out, .inl ⟨HK.out, by rw [HKE.out]⟩⟩⟩
end Go.Proofs.YtooplackonnemaaDoor.FieldsC
