/-
  fields.Ask: what it answers, in plain words; its state in the loop.
  Conditions: none.
-/
import Derived.Test.YtooplackonnemaaDoorFieldsPs
namespace Go.Proofs.YtooplackonnemaaDoor.FieldsC
open Go.RowKit Go.Shelf RowsK RowsM FieldRows LineC LineM BA RoundL AfterL
set_option linter.unusedVariables false
set_option linter.unusedSimpArgs false

def isHost (s : ByteArray) : Bool := s.toList == [104, 111, 115, 116]
/-- Is a field one that a request may not have? bl: the body's length in digits. -/
def badF (bl : ByteArray) (f : Fld) : Bool := betweenB f.1 || isHost f.1 || (isLength f.1 && (f.2.toList != bl.toList))
def crumbB : ByteArray := ⟨#[59, 32]⟩
/-- A field more: the place of the first cookie, and the fields. -/
def askStep (s : Option Nat × List Fld) (f : Fld) : Option Nat × List Fld :=
  if isLength f.1 then s
  else if isCookie f.1 then match s.1 with
    | some k => (some k, s.2.set k ((s.2.getD k default).1, (s.2.getD k default).2 ++ (crumbB ++ f.2)))
    | none => (some s.2.length, s.2 ++ [f])
  else (s.1, s.2 ++ [f])
def askRun (bl : ByteArray) : Option Nat × List Fld → List Fld → Option (Option Nat × List Fld)
  | s, [] => some s
  | s, f :: l => if badF bl f then none else askRun bl (askStep s f) l
theorem askRun_snoc (bl : ByteArray) : ∀ (l : List Fld) (s t : Option Nat × List Fld) (f : Fld), askRun bl s l = some t → askRun bl s (l ++ [f]) = if badF bl f then none else some (askStep t f)
  | [], s, t, f, h => by
    simp only [askRun, Option.some.injEq] at h
    subst h
    simp only [List.nil_append, askRun]
  | x :: l, s, t, f, h => by
    simp only [List.cons_append, askRun] at h ⊢
    split at h
    · cases h
    · rename_i hx
      rw [if_neg hx]
      exact askRun_snoc bl l _ t f h
theorem askRun_stop (bl : ByteArray) : ∀ (l : List Fld) (s : Option Nat × List Fld) (r : List Fld), askRun bl s l = none → askRun bl s (l ++ r) = none
  | [], s, r, h => by cases h
  | x :: l, s, r, h => by
    simp only [List.cons_append, askRun] at h ⊢
    split at h
    · rename_i hx; rw [if_pos hx]
    · rename_i hx
      rw [if_neg hx]
      exact askRun_stop bl l _ r h
/-- What stands in the place of the first cookie is in the list. -/
def ckOk (s : Option Nat × List Fld) : Prop := ∀ k, s.1 = some k → k < s.2.length
theorem ckOk_step {s : Option Nat × List Fld} (h : ckOk s) (f : Fld) : ckOk (askStep s f) := by
  unfold askStep
  split
  · exact h
  · split
    · cases hk : s.1 with
      | some k => intro j hj; simp only [Option.some.injEq] at hj; subst hj; simpa using h _ hk
      | none => intro j hj; simp only [Option.some.injEq] at hj; subst hj; simp
    · intro j hj; have := h j hj; simp; omega
/-- The state of Ask in its loop. -/
structure AskL (W0 W : World) (R : Nat) (m p h : ByteArray) (fv bv : Value) (out : List Fld) : Prop where
  c0 : W.cell? ⟨R, 0, none⟩ = some (.string m)
  c1 : W.cell? ⟨R, 1, none⟩ = some (.string p)
  c2 : W.cell? ⟨R, 2, none⟩ = some (.string h)
  c3 : W.cell? ⟨R, 3, none⟩ = some fv
  c4 : W.cell? ⟨R, 4, none⟩ = some bv
  f : ∀ i, W.frozen? ⟨R, i, none⟩ = false
  own : RowsK.Own encF W W0.heap.size 33 fv out
  blk : ∀ k, k < W0.heap.size → k ≠ R → W.heap[k]? = W0.heap[k]?
  sz : W0.heap.size ≤ W.heap.size
  os : W.os = W0.os
  tape : W.tape = W0.tape
  outp : W.output = W0.output
  lt : R < W0.heap.size
theorem AskL.step {W0 W W' : World} {R : Nat} {m p h : ByteArray} {fv bv : Value} {out : List Fld} (g : AskL W0 W R m p h fv bv out) (hB : Below W.heap.size W W') : AskL W0 W' R m p h fv bv out := by
  have hz := g.sz
  have hR : R < W.heap.size := by have := g.lt; omega
  have ce : ∀ i, W'.cell? ⟨R, i, none⟩ = W.cell? ⟨R, i, none⟩ := fun i => hB.cell (p := ⟨R, i, none⟩) hR
  exact ⟨(ce 0).trans g.c0, (ce 1).trans g.c1, (ce 2).trans g.c2, (ce 3).trans g.c3, (ce 4).trans g.c4, fun i => (hB.frozen (p := ⟨R, i, none⟩) hR).trans (g.f i), g.own.of_block fun k hk => hB.block k (g.own.lt k hk).2, fun k hk hne => (hB.block k (by omega)).trans (g.blk k hk hne), by have := hB.size; omega, hB.os.trans g.os, hB.tape.trans g.tape, hB.output.trans g.outp, g.lt⟩
/-- Behind an append, and its store. -/
theorem AskL.app {W0 W W2 : World} {R : Nat} {m p h : ByteArray} {fv bv v2 : Value} {out : List Fld} {x : Fld} (g : AskL W0 W R m p h fv bv out) (hg : W.grownBy W2 fv.ownBlock) (ho : RowsK.Own encF W2 W0.heap.size 33 v2 (out ++ [x])) :
    AskL W0 (W2.setCell ⟨R, 3, none⟩ v2) R m p h v2 bv (out ++ [x]) := by
  have hz := g.sz
  have hl := g.lt
  have bR : W2.heap[R]? = W.heap[R]? := hg.block R (by omega) fun e => by have := (g.own.lt R e.symm).1; omega
  have ce : ∀ i, i ≠ 3 → (W2.setCell ⟨R, 3, none⟩ v2).cell? ⟨R, i, none⟩ = W.cell? ⟨R, i, none⟩ := fun i hi => (World.cell?_setCell_other _ _ _ _ (fun e => hi (by simpa using (congrArg Addr.off e).symm))).trans (World.cell?_of_block (a := ⟨R, i, none⟩) bR)
  refine ⟨(ce 0 (by decide)).trans g.c0, (ce 1 (by decide)).trans g.c1, (ce 2 (by decide)).trans g.c2, World.cell?_setCell_same _ _ _ ((World.cell?_of_block (a := ⟨R, 3, none⟩) bR).trans g.c3), (ce 4 (by decide)).trans g.c4, fun i => by simp; exact (World.frozen?_of_block (a := ⟨R, i, none⟩) bR).trans (g.f i),
    ho.setCell _ _ fun e => by have := (ho.lt _ e).1; simp only at this; omega, fun k hk hne => (Below.heap_setCell _ _ _ _ hne).trans ((hg.block k (by omega) fun e => by have := (g.own.lt k e.symm).1; omega).trans (g.blk k hk hne)), by have := hg.size; simp; omega, hg.os.trans g.os, hg.tape.trans g.tape, hg.output.trans g.outp, hl⟩
/-- Behind a store to the first cookie's value. -/
theorem AskL.set {W0 W : World} {R b n c i : Nat} {m p h : ByteArray} {bv : Value} {out : List Fld} (g : AskL W0 W R m p h (.slice (some ⟨b, 0, none⟩) n c) bv out) (hi : i < out.length) (s : ByteArray) :
    AskL W0 (W.setCell ⟨b, i * 2 + 1, none⟩ (.string s)) R m p h (.slice (some ⟨b, 0, none⟩) n c) bv (out.set i ((out.getD i default).1, s)) := by
  have hz := g.sz
  have hl := g.lt
  have hbb := (g.own.lt b rfl).1
  have ce : ∀ i', (W.setCell ⟨b, i * 2 + 1, none⟩ (.string s)).cell? ⟨R, i', none⟩ = W.cell? ⟨R, i', none⟩ := fun i' => World.cell?_setCell_other _ _ _ _ (fun e => by have := congrArg Addr.block e; simp at this; omega)
  have hgd : out.getD i default = out[i] := by rw [List.getD_eq_getElem?_getD, List.getElem?_eq_getElem hi]; rfl
  refine ⟨(ce 0).trans g.c0, (ce 1).trans g.c1, (ce 2).trans g.c2, (ce 3).trans g.c3, (ce 4).trans g.c4, fun i' => by simp; exact g.f i', ?_, fun k hk hne => (Below.heap_setCell _ _ _ _ (by simp only; omega)).trans (g.blk k hk hne), by simp; exact hz, g.os, g.tape, g.outp, hl⟩
  rw [hgd]
  exact own_store g.own i 1 hi (by decide) (.string s) (out[i].1, s) rfl
end Go.Proofs.YtooplackonnemaaDoor.FieldsC
