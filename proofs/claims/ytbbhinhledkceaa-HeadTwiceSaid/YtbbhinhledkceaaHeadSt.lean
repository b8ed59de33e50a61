/-
  The state of Encode between two steps: a Coder, a writer, the fields, apart from each other.
  Conditions: none.
-/
import Derived.Test.YtbbhinhledkceaaHeadNew
import Derived.Test.YtbbhinhledkceaaHeadNum
namespace Go.Proofs.Ytbbhinhledkceaa.HeadF
open Go.RowKit RowsK FieldRows ModL TableC HeadC CodeC WireC
set_option linter.unusedVariables false
set_option linter.unusedSimpArgs false

/-- w0: the world ahead; gw: the writer's block (new since w0); O: its row's; Oc: the table's fields' block. -/
structure St (w0 w : World) (g bo bi gw : Nat) (max so si : Int) (Oo Oc Oi O : Option Nat) (lo li : List Fld) (bad : Bool) (acc : List Int) (v : Value) (l : List Fld) : Prop where
  c : IsCoder w g bo bi max Oc Oi lo li so si bad
  wr : IsWr w gw (gw + 1) O acc
  at_ : At encF w v l
  m : Mod (fun k => k = bo ∨ some k = Oo) w0 w
  gw0 : w0.heap.size ≤ gw
  old : g < w0.heap.size ∧ bo < w0.heap.size ∧ bi < w0.heap.size
  oi0 : ∀ k, Oi = some k → k < w0.heap.size
  v0 : l ≠ [] → ∀ k, v.ownBlock = some k → k < w0.heap.size ∧ k ≠ bo ∧ some k ≠ Oo
  oc : Oc = Oo ∨ ∃ k, w0.heap.size ≤ k ∧ Oc = some k
  ocw : ∀ k, Oc = some k → k ≠ gw ∧ O ≠ some k
  oo0 : ∀ k, Oo = some k → k < w0.heap.size
variable {w0 w w' : World} {g bo bi gw : Nat} {max so si : Int} {Oo Oc Oi O : Option Nat} {lo li : List Fld} {bad : Bool} {acc : List Int} {v : Value} {l : List Fld}
theorem at_of_block (h : At encF w v l) (hb : l ≠ [] → ∀ g, v.ownBlock = some g → w'.heap[g]? = w.heap[g]?) (hs : w.heap.size ≤ w'.heap.size) : At encF w' v l := by
  by_cases hl : l = []
  · subst hl
    obtain ⟨a, cap, rfl, h1, h2, h3, -⟩ := h
    exact ⟨a, cap, rfl, h1, h2, h3, fun i hi => absurd hi (by simp)⟩
  · exact h.of_block (hb hl) hs
theorem wr_old {base : Nat} (h : IsWr w g base O acc) (hB : Below w.heap.size w w') : IsWr w' g base O acc := by
  have hl := h.lt
  obtain ⟨⟨v, a, b, c⟩, f, n⟩ := h
  exact ⟨⟨v, (hB.cell (p := ⟨g, 0, none⟩) hl).trans a, b.below hB, c⟩, (hB.frozen (p := ⟨g, 0, none⟩) hl).trans f, n⟩
theorem St.below (h : St w0 w g bo bi gw max so si Oo Oc Oi O lo li bad acc v l) (hB : Below w.heap.size w w') : St w0 w' g bo bi gw max so si Oo Oc Oi O lo li bad acc v l :=
  ⟨h.c.old hB, wr_old h.wr hB, h.at_.old hB, h.m.below hB (fun k hk hge => by have := h.m.size; omega), h.gw0, h.old, h.oi0, h.v0, h.oc, h.ocw, h.oo0⟩
theorem table_of {b base : Nat} (h : IsTable w b base max lo so) (ho : OwnAt w b Oo) (hb : w'.heap[b]? = w.heap[b]?) (hO : ∀ k, Oo = some k → w'.heap[k]? = w.heap[k]?) (hs : w.heap.size ≤ w'.heap.size) : IsTable w' b base max lo so ∧ OwnAt w' b Oo := by
  obtain ⟨⟨va, hc0, hw, hne⟩, hc1, hc2, f0, f1, f2, hm, hss, hbb⟩ := h
  obtain ⟨vb, h0, h1⟩ := ho
  obtain rfl : va = vb := Option.some.inj (hc0.symm.trans h0)
  have n0 : ∀ i, w'.cell? ⟨b, i, none⟩ = w.cell? ⟨b, i, none⟩ := fun i => World.cell?_of_block (a := ⟨b, i, none⟩) hb
  have nf : ∀ i, w'.frozen? ⟨b, i, none⟩ = w.frozen? ⟨b, i, none⟩ := fun i => World.frozen?_of_block (a := ⟨b, i, none⟩) hb
  exact ⟨⟨⟨va, (n0 0).trans hc0, hw.of_block (fun q hq => hO q (h1.symm.trans hq)), hne⟩, (n0 1).trans hc1, (n0 2).trans hc2, (nf 0).trans f0, (nf 1).trans f1, (nf 2).trans f2, hm, hss, hbb⟩, va, (n0 0).trans h0, h1⟩
/-- The writer wrote. -/
theorem St.wrote (h : St w0 w g bo bi gw max so si Oo Oc Oi O lo li bad acc v l) {O' : Option Nat} {acc' : List Int} (hW : IsWr w' gw (gw + 1) O' acc') (hO : O' = O ∨ ∃ k, w.heap.size ≤ k ∧ O' = some k) (hM : Mod (fun k => k = gw ∨ some k = O) w w') :
    St w0 w' g bo bi gw max so si Oo Oc Oi O' lo li bad acc' v l := by
  have hs := h.m.size
  have hgw := h.gw0
  have hON : ∀ k, O = some k → gw + 1 ≤ k := by
    obtain ⟨⟨u, a, b, rfl⟩, -, -⟩ := h.wr
    exact fun k hk => (own_lt b k hk).1
  have hkeep : ∀ k, k < w.heap.size → k ≠ gw → O ≠ some k → w'.heap[k]? = w.heap[k]? := fun k hk h1 h2 => hM.block k hk (by rintro (e | e); exact h1 e; exact h2 e.symm)
  have hc := h.c
  have hg := h.old
  have kg := hkeep g (block_lt_of_cell hc.c0) (by omega) (fun e => by have := hON _ e; omega)
  have kbo := hkeep bo hc.out.lt (by omega) (fun e => by have := hON _ e; omega)
  have kbi := hkeep bi hc.inn.lt (by omega) (fun e => by have := hON _ e; omega)
  have kOc : ∀ k, Oc = some k → w'.heap[k]? = w.heap[k]? := fun k hk => hkeep k (hc.ho k hk).2.2 (h.ocw k hk).1 (h.ocw k hk).2
  have kOi : ∀ k, Oi = some k → w'.heap[k]? = w.heap[k]? := fun k hk => hkeep k (hc.hi k hk).2.2 (by have := h.oi0 k hk; omega) (fun e => by have := hON _ e; have := h.oi0 k hk; omega)
  have n0 : ∀ i, w'.cell? ⟨g, i, none⟩ = w.cell? ⟨g, i, none⟩ := fun i => World.cell?_of_block (a := ⟨g, i, none⟩) kg
  obtain ⟨tto, too⟩ := table_of hc.out hc.oo kbo kOc hM.size
  obtain ⟨tti, toi⟩ := table_of hc.inn hc.oi kbi kOi hM.size
  refine ⟨⟨(n0 0).trans hc.c0, (n0 1).trans hc.c1, (n0 2).trans hc.c2, (n0 3).trans hc.c3, (n0 4).trans hc.c4, (World.frozen?_of_block (a := ⟨g, 4, none⟩) kg).trans hc.f4, tto, tti, too, toi, fun k hk => ⟨(hc.ho k hk).1, (hc.ho k hk).2.1, Nat.lt_of_lt_of_le (hc.ho k hk).2.2 hM.size⟩, fun k hk => ⟨(hc.hi k hk).1, (hc.hi k hk).2.1, Nat.lt_of_lt_of_le (hc.hi k hk).2.2 hM.size⟩, hc.hoi, hc.ne⟩, hW, at_of_block h.at_ (fun hne q hq => hkeep q (by have := (h.v0 hne q hq).1; omega) (by have := (h.v0 hne q hq).1; omega) (fun e => by have := hON _ e; have := (h.v0 hne q hq).1; omega)) hM.size, ?_, h.gw0, h.old, h.oi0, h.v0, h.oc, ?_, h.oo0⟩
  · refine h.m.andThen hM ?_
    rintro k hk (e | e)
    · omega
    · have := hON k e.symm; omega
  · intro k hk
    refine ⟨(h.ocw k hk).1, ?_⟩
    rcases hO with e | ⟨q, hq, e⟩
    · rw [e]; exact (h.ocw k hk).2
    · rw [e]; intro e2; have := (hc.ho k hk).2.2; have := Option.some.inj e2; omega
theorem own_of {base : Nat} (h : BytesL.Own w base v acc) (hb : ∀ k, v.ownBlock = some k → w'.heap[k]? = w.heap[k]?) : BytesL.Own w' base v acc := by
  obtain ⟨h1, h2⟩ := h
  refine ⟨h1, ?_⟩
  rcases h2 with h2 | ⟨g, cap, cur, hv, hg, hh, r⟩
  · exact .inl h2
  · refine .inr ⟨g, cap, cur, hv, hg, ?_, r⟩
    rw [hb g (by rw [hv]; rfl)]; exact hh
theorem wr_of {base : Nat} (h : IsWr w g base O acc) (hb : w'.heap[g]? = w.heap[g]?) (hO : ∀ k, O = some k → w'.heap[k]? = w.heap[k]?) (hs : w.heap.size ≤ w'.heap.size) : IsWr w' g base O acc := by
  obtain ⟨⟨v, a, b, c⟩, f, n⟩ := h
  exact ⟨⟨v, (World.cell?_of_block (a := ⟨g, 0, none⟩) hb).trans a, own_of b (fun q hq => hO q (c.symm.trans hq)), c⟩, (World.frozen?_of_block (a := ⟨g, 0, none⟩) hb).trans f, n⟩
/-- A field was added to the table for what goes out. -/
theorem St.added (h : St w0 w g bo bi gw max so si Oo Oc Oi O lo li bad acc v l) {lo' : List Fld} {so' : Int} {Oc' : Option Nat} (hT : IsTable w' bo bo max lo' so') (hM : Mod (fun k => k = bo ∨ some k = Oc) w w') (hO : Oc' = Oc ∨ ∃ k, w.heap.size ≤ k ∧ Oc' = some k) (hA : OwnAt w' bo Oc') :
    St w0 w' g bo bi gw max so' si Oo Oc' Oi O lo' li bad acc v l := by
  have hs := h.m.size
  have hgw := h.gw0
  have hg := h.old
  have hc := h.c
  have hgwl := h.wr.lt
  have hON : ∀ k, O = some k → gw + 1 ≤ k ∧ k < w.heap.size := by
    obtain ⟨⟨u, a, b, rfl⟩, -, -⟩ := h.wr
    exact fun k hk => own_lt b k hk
  have hAl : ∀ k, Oc' = some k → k < w'.heap.size := by
    obtain ⟨⟨va, a0, aO, -⟩, -⟩ := hT
    obtain ⟨vb, b0, b1⟩ := hA
    obtain rfl : va = vb := Option.some.inj (a0.symm.trans b0)
    exact fun k hk => (aO.lt k (b1.trans hk)).2
  have hkeep : ∀ k, k < w.heap.size → k ≠ bo → Oc ≠ some k → w'.heap[k]? = w.heap[k]? := fun k hk h1 h2 => hM.block k hk (by rintro (e | e); exact h1 e; exact h2 e.symm)
  have kg := hkeep g (block_lt_of_cell hc.c0) hc.ne.1 (fun e => (hc.ho _ e).1 rfl)
  have kbi := hkeep bi hc.inn.lt (fun e => hc.ne.2.2 e.symm) (fun e => (hc.ho _ e).2.1 rfl)
  have kOi : ∀ k, Oi = some k → w'.heap[k]? = w.heap[k]? := fun k hk => hkeep k (hc.hi k hk).2.2 (hc.hi k hk).2.1 (fun e => hc.hoi k e hk)
  have kgw := hkeep gw hgwl (by omega) (fun e => (h.ocw _ e).1 rfl)
  have kO : ∀ k, O = some k → w'.heap[k]? = w.heap[k]? := fun k hk => hkeep k (hON k hk).2 (by have := hON k hk; omega) (fun e => (h.ocw k e).2 hk)
  have hocn : ∀ k, k < w0.heap.size → some k = Oc → some k = Oo := by
    intro k hk e
    rcases h.oc with q | ⟨z, hz, q⟩
    · rw [← q]; exact e
    · rw [q] at e; have := Option.some.inj e; omega
  have kv : l ≠ [] → ∀ q, v.ownBlock = some q → w'.heap[q]? = w.heap[q]? := fun hne q hq => hkeep q (by have := (h.v0 hne q hq).1; omega) (h.v0 hne q hq).2.1 (fun e => (h.v0 hne q hq).2.2 (hocn q (h.v0 hne q hq).1 e.symm))
  have n0 : ∀ i, w'.cell? ⟨g, i, none⟩ = w.cell? ⟨g, i, none⟩ := fun i => World.cell?_of_block (a := ⟨g, i, none⟩) kg
  obtain ⟨tti, toi⟩ := table_of hc.inn hc.oi kbi kOi hM.size
  have hgl := block_lt_of_cell hc.c0
  have hbl := hc.inn.lt
  refine ⟨⟨(n0 0).trans hc.c0, (n0 1).trans hc.c1, (n0 2).trans hc.c2, (n0 3).trans hc.c3, (n0 4).trans hc.c4, (World.frozen?_of_block (a := ⟨g, 4, none⟩) kg).trans hc.f4, hT, tti, hA, toi, ?_, fun k hk => ⟨(hc.hi k hk).1, (hc.hi k hk).2.1, Nat.lt_of_lt_of_le (hc.hi k hk).2.2 hM.size⟩, ?_, hc.ne⟩, wr_of h.wr kgw kO hM.size, at_of_block h.at_ kv hM.size, ?_, h.gw0, h.old, h.oi0, h.v0, ?_, ?_, h.oo0⟩
  · intro k hk
    rcases hO with e | ⟨q, hq, e⟩
    · rw [e] at hk; exact ⟨(hc.ho k hk).1, (hc.ho k hk).2.1, Nat.lt_of_lt_of_le (hc.ho k hk).2.2 hM.size⟩
    · have := hAl k hk; rw [e] at hk; have := Option.some.inj hk; dsimp only at hgl hbl; exact ⟨by omega, by omega, by omega⟩
  · intro k hk
    rcases hO with e | ⟨q, hq, e⟩
    · rw [e] at hk; exact hc.hoi k hk
    · rw [e] at hk; intro e2; have := h.oi0 k e2; have := Option.some.inj hk; omega
  · refine h.m.andThen hM ?_
    rintro k hk (e | e)
    · exact .inl e
    · exact .inr (hocn k hk e)
  · rcases hO with e | ⟨q, hq, e⟩
    · rw [e]; exact h.oc
    · exact .inr ⟨q, by omega, e⟩
  · intro k hk
    rcases hO with e | ⟨q, hq, e⟩
    · rw [e] at hk; exact h.ocw k hk
    · rw [e] at hk; have := Option.some.inj hk; exact ⟨by omega, fun e2 => by have := hON k e2; omega⟩
end Go.Proofs.Ytbbhinhledkceaa.HeadF
