/-
  A range over an iterator that writes one cell of its own between two rounds (as strings.Lines writes what is left of its text).
  Conditions: the loop stands in no other one; the body leaves by a return alone, or goes on.
-/
import Derived.RangeFuncNested
import Derived.RangeFuncBound
import Derived.RangeFuncCalls
import Derived.RangeFuncLeaves
import Derived.WalkKit
import Derived.Below
namespace Go.Proofs.YteadmakhcpjpnaaDoor.RangeC
open Go.RowKit
set_option linter.unusedVariables false

variable {F : Fence} {n : Nat} {P : Program} {α : Type}

/-- J stays where block sb alone turns, or new blocks come. -/
def Stays (sb : Nat) (J : List α → World → Prop) : Prop :=
  ∀ s A C row, J s A → A.grownBy C row → (∀ r, row = some r → r = sb) → J s C
/-- The iterator's word: whatever stays over writes of block sb, and is kept by each round, is there at the end. -/
def SeqW (F : Fence) (n : Nat) (P : Program) (g : Nat) (lb : Array Value) (enc : α → Value) (sb : Nat) (S Sp : List α → Prop) (w0 : World) : Prop :=
  ∀ (l : Nat) (J Jx : List α → World → Prop) (W : World), Below w0.heap.size w0 W → Stays sb J → Stays sb Jx →
    (∀ pre x W1, J pre W1 → YieldAt F (n - 1) P l #[enc x] W1 fun e W' => (e = .returned (.bool true) ∧ J (pre ++ [x]) W' ∧ W'.heap[sb]? = W1.heap[sb]?) ∨ (e = .returned (.bool false) ∧ Jx (pre ++ [x]) W')) →
    J [] W →
    CallsIn F n P g (#[.func (.yield l) #[] #[]] ++ lb) W fun e W' => (∃ v, e = .returned v) ∧ ((∃ xs, S xs ∧ J xs W') ∨ (∃ pre, Sp pre ∧ Jx pre W'))
/-- I stays where block sb turns, where new blocks come, and where what is no cells turns from block B on. -/
def Holds2 (sb B : Nat) (I : List α → World → Prop) : Prop :=
  ∀ s A C row, I s A → A.grownBy C row → (∀ r, row = some r → r = sb ∨ (B ≤ r ∧ ∃ o : Obj, A.heap[r]? = some o ∧ o.isCells = false)) → I s C
def bodyEnds (B sb : Nat) (I Ix : List α → World → Prop) (xs : List α) (W : World) : Exit → Act → World → Prop
  | .normal, _, W' => KeepsFrom B W W' ∧ W'.heap[sb]? = W.heap[sb]? ∧ I xs W'
  | .ret, _, W' => KeepsFrom B W W' ∧ Ix xs W'
  | _, _, _ => False
theorem Holds2.put {sb B : Nat} {I : List α → World → Prop} (h : Holds2 sb B I) {s : List α} {W : World} {l : Nat} {o : Obj} (o' : Obj) (hs : I s W) (hB : B ≤ l) (hl : W.heap[l]? = some o) (ho : o.isCells = false) : I s (W.putObj l o') :=
  h s W _ (some l) hs (grownBy_putObj' W l o') fun r e => by cases e; exact .inr ⟨hB, o, hl, ho⟩
theorem Holds2.new {sb B : Nat} {I : List α → World → Prop} (h : Holds2 sb B I) {s : List α} {W : World} (o : Obj) (hs : I s W) : I s (W.alloc o) :=
  h s W _ none hs (World.grownBy_alloc W o none) fun r e => by cases e

theorem wpIn_range_cell {g : Operand} {p : Tmp} {assign body : Code} {Q : Exit → Act → World → Prop} {a : Act} {w : World}
    (hro : F.round = none) (h1 : 1 ≤ n) {gf : Nat} {lb : Array Value} (hg : a.eval g = .func (.func gf) #[] lb) (hFg : F.fn gf) (eg : ∀ args w, (callFunc gf args).run P w = .ok (.enter gf args) w)
    {enc : α → Value} {sb : Nat} {S Sp : List α → Prop} {w0 : World} (hseq : SeqW F (n - 1) P gf lb enc sb S Sp w0) (hb0 : Below w0.heap.size w0 w) (hsb : sb < w.heap.size)
    (I Ix : List α → World → Prop) (hI : Holds2 sb w.heap.size I) (hIx : Holds2 sb w.heap.size Ix) (h0 : I [] w) (a₁ : α → Act)
    (hassign : ∀ (l : Nat) (x : α) (W : World) (K : Act → World → Prop), K (a₁ x) W → assign.wpIn (F.inRound l) (n - 1 - 1) P (Exit.then K (fun _ _ _ => False)) { tmps := a.tmps.setIfInBounds p (enc x), defers := [] } W)
    (hbody : ∀ (l : Nat) (pre : List α) (x : α) (W : World), I pre W → body.wpIn (F.inRound l) (n - 1 - 1) P (bodyEnds w.heap.size sb I Ix (pre ++ [x]) W) (a₁ x) W)
    (hdone : ∀ (D : Nat) (xs : List α) (W : World), w.heap.size ≤ D → S xs → I xs W → W.heap[D]? = some (.deferred (some [])) → Q .normal { a with defers := { target := .collected D, args := #[] } :: a.defers } W)
    (hstop : ∀ (D : Nat) (pre : List α) (W : World), w.heap.size ≤ D → Sp pre → Ix pre W → W.heap[D]? = some (.deferred (some [])) → Code.ret.wpIn F n P Q { a with defers := { target := .collected D, args := #[] } :: a.defers } W) :
    (Code.rangeFunc g #[p] assign body).wpIn F n P Q a w := by
  apply wpIn_rangeFunc
  intro fn hfn
  rw [hro]
  obtain ⟨D, hD⟩ : ∃ D, D = w.heap.size := ⟨_, rfl⟩
  let rcd : LoopState → Option Code → Obj := fun st pe => .loop { state := st, pending := pe, fn := fn, tmps := a.tmps, params := #[p], assign := assign, body := body, defers := D }
  -- the two blocks of book-keeping
  let At : LoopState → Option Code → World → Prop := fun st pe W => W.heap[D + 1]? = some (rcd st pe) ∧ W.heap[D]? = some (.deferred (some []))
  let W1 : World := (w.alloc (.deferred (some []))).alloc (rcd .ready none)
  have hz : (w.alloc (.deferred (some []))).heap.size = D + 1 := by rw [World.size_alloc, hD]
  have hAt1 : At .ready none W1 := by
    refine ⟨?_, ?_⟩
    · have h := World.alloc_heap_new (w.alloc (.deferred (some []))) (rcd .ready none)
      rw [hz] at h; exact h
    · have h := World.alloc_heap_new w (.deferred (some []))
      rw [← hD] at h
      exact (Below.heap_alloc _ _ _ (by rw [hz]; omega)).trans h
  have atStay : ∀ {st pe} {A C : World} {row : Option Nat}, At st pe A → A.grownBy C row → (∀ r, row = some r → r = sb) → At st pe C := by
    rintro st pe A C row ⟨x1, x2⟩ hgr hr
    have y1 := (Array.getElem?_eq_some_iff.1 x1).1
    have y2 := (Array.getElem?_eq_some_iff.1 x2).1
    exact ⟨(hgr.block _ y1 fun e => by have := hr _ e.symm; omega).trans x1, (hgr.block _ y2 fun e => by have := hr _ e.symm; omega).trans x2⟩
  have atKeep : ∀ {st pe} {A C : World}, At st pe A → KeepsFrom w.heap.size A C → At st pe C := by
    rintro st pe A C ⟨x1, x2⟩ hk
    exact ⟨hk.same _ _ (by omega) x1 rfl, hk.same _ _ (by omega) x2 rfl⟩
  have atPut : ∀ {st pe st' pe'} {A : World}, At st pe A → At st' pe' (A.putObj (D + 1) (rcd st' pe')) := by
    rintro st pe st' pe' A ⟨x1, x2⟩
    exact ⟨World.putObj_heap_same (Array.getElem?_eq_some_iff.1 x1).1, (World.putObj_heap_other (by omega)).trans x2⟩
  have iPut : ∀ {K : List α → World → Prop} {st pe} {A : World} {s : List α} (o' : Obj), Holds2 sb w.heap.size K → At st pe A → K s A → K s (A.putObj (D + 1) o') :=
    fun o' hK hA hs => hK.put o' hs (by omega) hA.1 rfl
  have bPut : ∀ {A : World} (o' : Obj), (A.putObj (D + 1) o').heap[sb]? = A.heap[sb]? := fun {A} o' => World.putObj_heap_other (by omega)
  refine ⟨D + 1, [{ target := .collected D, args := #[] }], W1, { target := .fn (.func gf) lb, args := #[.func (.yield (D + 1)) #[] #[]] }, W1, gf, #[.func (.yield (D + 1)) #[] #[]] ++ lb, W1, ?_, ?_, ?_, ?_, fun _ => h1, ?_⟩
  · rw [hD]
    have h := run_enterLoop_outer (P := P) (w := w) fn a.tmps #[p] assign body
    rw [h]
    show _ = Result.ok _ ((w.alloc (.deferred (some []))).alloc (rcd .ready none))
    simp only [rcd, hD]
  · simp only [resolve, hg]
    simp [go_sem]
  · intro f' hf'
    simp [Target.leads] at hf'
    subst hf'
    exact hFg
  · simp [invoke, go_sem, eg]
  · refine (hseq (D + 1) (fun pre W => I pre W ∧ At .ready none W) (fun pre W => Ix pre W ∧ At .done (some .ret) W) W1 ?_ ?_ ?_ ?_ ?_).mono ?_
    · exact hb0.trans ((((Below.refl _ w).alloc (Nat.le_refl _) _).alloc (by rw [hz]; omega) _).mono hb0.size)
    · rintro s A C row ⟨x1, x2⟩ hgr hr
      exact ⟨hI s A C row x1 hgr fun r e => .inl (hr r e), atStay x2 hgr hr⟩
    · rintro s A C row ⟨x1, x2⟩ hgr hr
      exact ⟨hIx s A C row x1 hgr fun r e => .inl (hr r e), atStay x2 hgr hr⟩
    · -- a round
      rintro pre x W ⟨hi, hA⟩
      refine ⟨fn, _, assign, body, run_yield (P := P) (args := #[enc x]) hA.1 (by simp), roundIn_of_wpIn hfn ?_⟩
      have ht : (#[p].zip #[enc x]).foldl (fun (tmps : Array Value) (q : Tmp × Value) => tmps.setIfInBounds q.1 q.2) a.tmps = a.tmps.setIfInBounds p (enc x) := by simp
      show assign.wpIn _ _ _ _ { tmps := (#[p].zip #[enc x]).foldl (fun (tmps : Array Value) (q : Tmp × Value) => tmps.setIfInBounds q.1 q.2) a.tmps, defers := [] } W
      rw [ht]
      refine hassign _ x W _ ?_
      refine ⟨_, run_beginRound hA.1 rfl, ?_⟩
      have hA2 : At .busy none (W.putObj (D + 1) (rcd .busy none)) := atPut hA
      refine wpIn_mono (hbody (D + 1) pre x _ (iPut _ hI hA hi)) ?_
      rintro e a3 W3 hp
      cases e with
      | normal =>
        obtain ⟨k1, k2, k3⟩ := hp
        have hA3 : At .busy none W3 := atKeep hA2 k1
        exact ⟨_, _, run_endRound (P := P) none hA3.1, .inl ⟨rfl, ⟨iPut _ hI hA3 k3, atPut hA3⟩, ((bPut _).trans k2).trans (bPut _)⟩⟩
      | ret =>
        obtain ⟨k1, k2⟩ := hp
        have hA3 : At .busy none W3 := atKeep hA2 k1
        exact ⟨_, _, run_endRound (P := P) (some .ret) hA3.1, .inr ⟨rfl, iPut _ hIx hA3 k2, atPut hA3⟩⟩
      | exit id => exact hp.elim
      | goto t => exact hp.elim
      | panic ch => exact hp.elim
      | outgrown => exact hp.elim
    · exact ⟨hI.new _ (hI.new _ h0), hAt1⟩
    · -- behind the iterator
      rintro e W2 ⟨⟨v, rfl⟩, (⟨xs, hS, hi, hA⟩ | ⟨pre, hSp, hi, hA⟩)⟩
      · refine ⟨none, _, run_endLoop (P := P) hA.1 (by simp), ?_⟩
        exact hdone D xs _ (by omega) hS (iPut _ hI hA hi) ((World.putObj_heap_other (by omega)).trans hA.2)
      · refine ⟨some .ret, _, run_endLoop (P := P) hA.1 (by simp), ?_⟩
        exact hstop D pre _ (by omega) hSp (iPut _ hIx hA hi) ((World.putObj_heap_other (by omega)).trans hA.2)
end Go.Proofs.YteadmakhcpjpnaaDoor.RangeC
