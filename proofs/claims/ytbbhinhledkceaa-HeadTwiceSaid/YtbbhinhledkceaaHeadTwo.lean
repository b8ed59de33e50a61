/-
  Two Coders, one that says and one that hears, apart from each other.
  Conditions: none.
-/
import Derived.Test.YtbbhinhledkceaaHeadEnc
import Derived.Test.YtbbhinhledkceaaHeadDecD
namespace Go.Proofs.Ytbbhinhledkceaa.HeadF
open Go.RowKit RowsK FieldRows ModL TableC HeadC CodeC WireC
set_option linter.unusedVariables false
set_option linter.unusedSimpArgs false

/-- A Coder's blocks. -/
def Blk (g bo bi : Nat) (Oo Oi : Option Nat) (k : Nat) : Prop := k = g ∨ k = bo ∨ k = bi ∨ some k = Oo ∨ some k = Oi
theorem blk_lt {w : World} {g bo bi : Nat} {max so si : Int} {Oo Oi : Option Nat} {lo li : List Fld} {bad : Bool} (h : IsCoder w g bo bi max Oo Oi lo li so si bad) {k : Nat} (hk : Blk g bo bi Oo Oi k) : k < w.heap.size := by
  rcases hk with rfl | rfl | rfl | e | e
  · exact block_lt_of_cell h.c0
  · exact h.out.lt
  · exact h.inn.lt
  · exact (h.ho k e.symm).2.2
  · exact (h.hi k e.symm).2.2
theorem IsCoder.of_blocks {w w' : World} {g bo bi : Nat} {max so si : Int} {Oo Oi : Option Nat} {lo li : List Fld} {bad : Bool} (h : IsCoder w g bo bi max Oo Oi lo li so si bad) (hk : ∀ k, Blk g bo bi Oo Oi k → w'.heap[k]? = w.heap[k]?) (hs : w.heap.size ≤ w'.heap.size) : IsCoder w' g bo bi max Oo Oi lo li so si bad := by
  have kg := hk g (.inl rfl)
  have n0 : ∀ i, w'.cell? ⟨g, i, none⟩ = w.cell? ⟨g, i, none⟩ := fun i => World.cell?_of_block (a := ⟨g, i, none⟩) kg
  obtain ⟨t1, t2⟩ := table_of h.out h.oo (hk bo (.inr (.inl rfl))) (fun k e => hk k (.inr (.inr (.inr (.inl e.symm))))) hs
  obtain ⟨t3, t4⟩ := table_of h.inn h.oi (hk bi (.inr (.inr (.inl rfl)))) (fun k e => hk k (.inr (.inr (.inr (.inr e.symm))))) hs
  exact ⟨(n0 0).trans h.c0, (n0 1).trans h.c1, (n0 2).trans h.c2, (n0 3).trans h.c3, (n0 4).trans h.c4, (World.frozen?_of_block (a := ⟨g, 4, none⟩) kg).trans h.f4, t1, t3, t2, t4, fun k e => ⟨(h.ho k e).1, (h.ho k e).2.1, by have := (h.ho k e).2.2; omega⟩, fun k e => ⟨(h.hi k e).1, (h.hi k e).2.1, by have := (h.hi k e).2.2; omega⟩, h.hoi, h.ne⟩
/-- A says, B hears; the fields v that came in. -/
structure TW (w0 w : World) (gA boA biA gB boB biB : Nat) (OA PA OB PB : Option Nat) (lo li : List Fld) (so si : Int) (v : Value) (l : List Fld) : Prop where
  A : IsCoder w gA boA biA 4096 OA PA lo [] so 0 false
  B : IsCoder w gB boB biB 4096 OB PB [] li 0 si false
  ap : ∀ k, Blk gA boA biA OA PA k → ¬ Blk gB boB biB OB PB k
  ba : ∀ k, Blk gA boA biA OA PA k → w0.heap.size ≤ k
  bb : ∀ k, Blk gB boB biB OB PB k → w0.heap.size ≤ k
  m : Below w0.heap.size w0 w
  at_ : At encF w v l
  v0 : l ≠ [] → ∀ k, v.ownBlock = some k → k < w0.heap.size
section
variable {w0 w w' : World} {gA boA biA gB boB biB : Nat} {OA PA OB PB : Option Nat} {lo li : List Fld} {so si : Int} {v : Value} {l : List Fld}
theorem TW.below (h : TW w0 w gA boA biA gB boB biB OA PA OB PB lo li so si v l) (hB : Below w.heap.size w w') : TW w0 w' gA boA biA gB boB biB OA PA OB PB lo li so si v l :=
  ⟨h.A.old hB, h.B.old hB, h.ap, h.ba, h.bb, h.m.trans (hB.mono h.m.size), h.at_.old hB, h.v0⟩
theorem TW.enc (h : TW w0 w gA boA biA gB boB biB OA PA OB PB lo li so si v l) (v' : Value) (l' : List Fld) (hl : At encF w v' l') (hv : l' ≠ [] → ∀ k, v'.ownBlock = some k → k < w.heap.size ∧ k ≠ boA ∧ some k ≠ OA) (hf : fullB l' = false) (hlong : longB l' = false) (hlen : lo.length + l'.length ≤ 1000000) (E : List Int) (lc : List Fld) (sc : Int) (hE : encL 4096 l' lo so = (E, lc, sc)) :
    Calls Try.prog 11 #[.pointer (some ⟨gA, 0, none⟩), v'] w fun e w' => ∃ a n c OA', e = .returned (.tuple #[.slice a n c, .nilIface]) ∧ n = E.length ∧ BA.BytesAt w' (.slice a n c) E ∧ (∀ k, (Value.slice a n c).ownBlock = some k → w.heap.size ≤ k ∧ k < w'.heap.size ∧ OA' ≠ some k) ∧ TW w0 w' gA boA biA gB boB biB OA' PA OB PB lc li sc si v l ∧ Mod (fun k => k = boA ∨ some k = OA) w w' := by
  have H := henc_ok v' l' w gA boA biA 4096 so 0 OA PA lo [] false hl h.A hv hf hlong hlen
  rw [hE] at H
  refine H.mono ?_
  rintro e w' ⟨vr, OA', rfl, hO, hC, hOO, hne, hM⟩
  have hbo : Blk gA boA biA OA PA boA := .inr (.inl rfl)
  have hkeep : ∀ k, k < w.heap.size → k ≠ boA → OA ≠ some k → w'.heap[k]? = w.heap[k]? := fun k hk h1 h2 => hM.block k hk (by rintro (e | e); exact h1 e; exact h2 e.symm)
  obtain ⟨a, c, rfl, -⟩ := hO.slice
  have hnew : ∀ k, Blk gA boA biA OA' PA k → Blk gA boA biA OA PA k ∨ w.heap.size ≤ k := by
    rintro k (e | e | e | e | e)
    · exact .inl (.inl e)
    · exact .inl (.inr (.inl e))
    · exact .inl (.inr (.inr (.inl e)))
    · rcases hOO with q | ⟨z, hz, q⟩
      · rw [q] at e; exact .inl (.inr (.inr (.inr (.inl e))))
      · rw [q] at e; have := Option.some.inj e; exact .inr (by omega)
    · exact .inl (.inr (.inr (.inr (.inr e))))
  refine ⟨a, E.length, c, OA', rfl, rfl, BA.BytesAt.of_own hO, fun k hk => ⟨(own_lt hO k hk).1, (own_lt hO k hk).2, hne k hk⟩, ⟨hC, h.B.of_blocks (fun k hk => hkeep k (blk_lt h.B hk) (fun e => h.ap boA hbo (e ▸ hk)) (fun e => h.ap k (.inr (.inr (.inr (.inl e.symm)))) hk)) hM.size, ?_, ?_, h.bb, ?_, ?_, h.v0⟩, hM⟩
  · intro k hk
    rcases hnew k hk with q | q
    · exact h.ap k q
    · intro e; have := blk_lt h.B e; omega
  · intro k hk
    rcases hnew k hk with q | q
    · exact h.ba k q
    · have := h.m.size; omega
  · refine h.m.trans (hM.toBelow (B := w0.heap.size) h.m.size ?_)
    rintro k hk (e | e)
    · have := h.ba k (.inr (.inl e)); omega
    · have := h.ba k (.inr (.inr (.inr (.inl e)))); omega
  · refine at_of_block h.at_ (fun hne k hk => ?_) hM.size
    have hk0 := h.v0 hne k hk
    have := h.m.size
    exact hkeep k (by omega) (fun e => by have := h.ba k (.inr (.inl e)); omega) (fun e => by have := h.ba k (.inr (.inr (.inr (.inl e.symm)))); omega)
theorem TW.dec (h : TW w0 w gA boA biA gB boB biB OA PA OB PB lo li so si v l) (x : Value) (l' : List Fld) (E : List Int) (lc : List Fld) (sc : Int) (hE : encL 4096 l' li si = (E, lc, sc)) (hx : BA.BytesAt w x E) (hxb : ∀ k, x.ownBlock = some k → k < w.heap.size ∧ ¬ Blk gB boB biB OB PB k) (hf : fullB l' = false) (hlong : longB l' = false) (hlen : li.length + l'.length ≤ 1000000) :
    Calls Try.prog 12 #[.pointer (some ⟨gB, 0, none⟩), x] w fun e w' => ∃ a c PB', e = .returned (.tuple #[.slice a l'.length c, .nilIface]) ∧ At encF w' (.slice a l'.length c) l' ∧ (∀ k, (Value.slice a l'.length c).ownBlock = some k → w.heap.size ≤ k ∧ k < w'.heap.size ∧ PB' ≠ some k) ∧ TW w0 w' gA boA biA gB boB biB OA PA OB PB' lo lc so sc v l ∧ (∀ k, Blk gB boB biB OB PB' k → Blk gB boB biB OB PB k ∨ w.heap.size ≤ k) ∧ Mod (fun k => k = gB ∨ k = biB ∨ some k = PB) w w' := by
  have H := hdec_told x l' w gB boB biB 4096 0 si OB PB x.ownBlock [] li h.B (by rw [hE]; exact hx) rfl (fun k hk => ⟨(hxb k hk).1, fun e => (hxb k hk).2 (.inr (.inr (.inl e))), fun e => (hxb k hk).2 (.inr (.inr (.inr (.inr e))))⟩) hf hlong hlen
  rw [hE] at H
  refine H.mono ?_
  rintro e w' ⟨a, c, lc', sc', PB', rfl, hq, hA, hne, hC, hOO, hM⟩
  have hq2 := hq.out
  simp only [Prod.mk.injEq] at hq2
  obtain ⟨rfl, rfl⟩ := hq2
  have hkeep : ∀ k, k < w.heap.size → ¬ Blk gB boB biB OB PB k → w'.heap[k]? = w.heap[k]? := fun k hk h1 => hM.block k hk (by rintro (e | e | e); exact h1 (.inl e); exact h1 (.inr (.inr (.inl e))); exact h1 (.inr (.inr (.inr (.inr e)))))
  have hnew : ∀ k, Blk gB boB biB OB PB' k → Blk gB boB biB OB PB k ∨ w.heap.size ≤ k := by
    rintro k (e | e | e | e | e)
    · exact .inl (.inl e)
    · exact .inl (.inr (.inl e))
    · exact .inl (.inr (.inr (.inl e)))
    · exact .inl (.inr (.inr (.inr (.inl e))))
    · rcases hOO with q | ⟨z, hz, q⟩
      · rw [q] at e; exact .inl (.inr (.inr (.inr (.inr e))))
      · rw [q] at e; have := Option.some.inj e; exact .inr (by omega)
  refine ⟨a, c, PB', rfl, hA, hne, ⟨h.A.of_blocks (fun k hk => hkeep k (blk_lt h.A hk) (h.ap k hk)) hM.size, hC, ?_, h.ba, ?_, ?_, ?_, h.v0⟩, hnew, hM⟩
  · intro k hk e
    rcases hnew k e with q | q
    · exact h.ap k hk q
    · have := blk_lt h.A hk; omega
  · intro k hk
    rcases hnew k hk with q | q
    · exact h.bb k q
    · have := h.m.size; omega
  · refine h.m.trans (hM.toBelow (B := w0.heap.size) h.m.size ?_)
    rintro k hk (e | e | e)
    · have := h.bb k (.inl e); omega
    · have := h.bb k (.inr (.inr (.inl e))); omega
    · have := h.bb k (.inr (.inr (.inr (.inr e)))); omega
  · refine at_of_block h.at_ (fun hne k hk => ?_) hM.size
    have hk0 := h.v0 hne k hk
    have := h.m.size
    exact hkeep k (by omega) (fun e => by have := h.bb k e; omega)
theorem fst_get : fst (sameF (⟨#[58, 109, 101, 116, 104, 111, 100]⟩, ⟨#[71, 69, 84]⟩)) (allL []) = 1 := by
  have e : ∀ f, sameF f = fun x => (x.1.data.toList == f.1.data.toList && x.2.data.toList == f.2.data.toList) := fun f => by funext x; simp only [sameF, ByteArray.toList_eq]
  rw [e]
  clear e
  decide
theorem enc_get : encL 4096 [(⟨#[58, 109, 101, 116, 104, 111, 100]⟩, ⟨#[71, 69, 84]⟩)] [] 0 = ([129], [], 0) := by
  have h := enc1_whole (max := 4096) (sz := 0) (l := []) (f := (⟨#[58, 109, 101, 116, 104, 111, 100]⟩, ⟨#[71, 69, 84]⟩)) (by rw [fst_get]; decide)
  rw [fst_get] at h
  simp only [encL]
  rw [h]
  rfl
theorem long_get : longB [(⟨#[58, 109, 101, 116, 104, 111, 100]⟩, ⟨#[71, 69, 84]⟩)] = false := by decide
theorem full_get : fullB [(⟨#[58, 109, 101, 116, 104, 111, 100]⟩, ⟨#[71, 69, 84]⟩)] = false := by
  have hs : szs [(⟨#[58, 109, 101, 116, 104, 111, 100]⟩, ⟨#[71, 69, 84]⟩)] = 42 := rfl
  have h := wgt_ok [(⟨#[58, 109, 101, 116, 104, 111, 100]⟩, ⟨#[71, 69, 84]⟩)] 0 (fits_of long_get) (by omega) (by rw [hs]; omega)
  unfold fullB
  rw [if_neg (by simp), h, hs]
  rfl
/-- What the law says of fields that fit: what the second time's bytes are, and the tables. -/
theorem twice_plain {l : List Fld} (hf : fullB l = false) (hlong : longB l = false) : ∃ (E E2 : List Int) (lc : List Fld) (sc : Int), encL 4096 l [] 0 = (E, lc, sc) ∧ encL 4096 l lc sc = (E2, lc, sc) ∧ E2.length = l.length ∧ lc.length ≤ 100 ∧ l.length ≤ 40 ∧ wgt l 0 ≤ 2000 := by
  have hfit := fits_of hlong
  have hb := szs_bd hfit
  have hf2 := hf
  unfold fullB at hf2
  by_cases h40 : 40 < l.length
  · rw [if_pos h40] at hf2; cases hf2
  · rw [if_neg h40, decide_eq_false_iff_not] at hf2
    have hw := wgt_ok l 0 hfit (by omega) (by omega)
    obtain ⟨f1, f2, f3⟩ := first_pass (max := 4096) (by omega) l [] 0 hfit (by omega) (by omega)
    obtain ⟨⟨E, lc, sc⟩, hE⟩ : ∃ X, encL 4096 l [] 0 = X := ⟨_, rfl⟩
    rw [hE] at f2 f3
    simp only [List.length_nil] at f2 f3
    have hal : (allL lc).length = 12 + lc.length := by unfold allL; rw [List.length_append]; rfl
    obtain ⟨s1, s2⟩ := second_pass (max := 4096) l lc sc f2 (by omega)
    obtain ⟨⟨E2, lc2, sc2⟩, hE2⟩ : ∃ X, encL 4096 l lc sc = X := ⟨_, rfl⟩
    rw [hE2] at s1 s2
    simp only [Prod.mk.injEq] at s1
    obtain ⟨rfl, rfl⟩ := s1
    exact ⟨E, E2, lc2, sc2, hE, hE2, s2, by omega, by omega, by omega⟩
end
end Go.Proofs.Ytbbhinhledkceaa.HeadF
