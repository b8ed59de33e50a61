/-
  head's Decode over this seat's translation, of what Encode says.
  Conditions: the bounds that stand in each.
-/
import Derived.Test.YtbbhinhledkceaaHeadDec
namespace Go.Proofs.Ytbbhinhledkceaa.HeadF
open Go.RowKit RowsK FieldRows ModL TableC HeadC CodeC WireC
set_option linter.unusedVariables false
set_option linter.unusedSimpArgs false

section
variable {w w' : World} {g bo bi r : Nat} {max so si sc : Int} {Oo Oi O B : Option Nat} {lo li lc : List Fld} {bad : Bool} {b : List Int} {vl : Value} {la : List Fld}
theorem IsCoder.setBad (h : IsCoder w g bo bi max Oo Oi lo li so si bad) (q : Bool) : IsCoder (w.setCell ⟨g, 4, none⟩ (.bool q)) g bo bi max Oo Oi lo li so si q := by
  have hM : Mod (fun k => k = g) w (w.setCell ⟨g, 4, none⟩ (.bool q)) := (Mod.refl (fun k => k = g) w).setCell (fun _ => rfl) _
  have kb : ∀ k, k < w.heap.size → k ≠ g → (w.setCell ⟨g, 4, none⟩ (.bool q)).heap[k]? = w.heap[k]? := fun k hk hn => hM.block k hk hn
  obtain ⟨t1, t2⟩ := table_of h.out h.oo (kb bo h.out.lt h.ne.1.symm) (fun k hk => kb k (h.ho k hk).2.2 (h.ho k hk).1) hM.size
  obtain ⟨t3, t4⟩ := table_of h.inn h.oi (kb bi h.inn.lt h.ne.2.1.symm) (fun k hk => kb k (h.hi k hk).2.2 (h.hi k hk).1) hM.size
  exact ⟨(World.cell?_setCell_other _ _ _ _ (by simp)).trans h.c0, (World.cell?_setCell_other _ _ _ _ (by simp)).trans h.c1, (World.cell?_setCell_other _ _ _ _ (by simp)).trans h.c2, (World.cell?_setCell_other _ _ _ _ (by simp)).trans h.c3, World.cell?_setCell_same _ _ _ h.c4, by simpa using h.f4, t1, t3, t2, t4, fun k hk => ⟨(h.ho k hk).1, (h.ho k hk).2.1, by simpa using (h.ho k hk).2.2⟩, fun k hk => ⟨(h.hi k hk).1, (h.hi k hk).2.1, by simpa using (h.hi k hk).2.2⟩, h.hoi, h.ne⟩
theorem DS.coder (h : IsCoder w g bo bi max Oo Oi lo li so si bad) (hD : DS w w' g bi r max sc Oi O B lc b vl la) : IsCoder w' g bo bi max Oo O lo lc so sc bad := by
  have hM := hD.m
  have hg : g < w.heap.size := block_lt_of_cell h.c0
  have kb : ∀ k, k < w.heap.size → k ≠ bi → Oi ≠ some k → w'.heap[k]? = w.heap[k]? := fun k hk h1 h2 => hM.block k hk (by rintro (e | e); exact h1 e; exact h2 e.symm)
  have kg := kb g hg h.ne.2.1 (fun e => (h.hi _ e).1 rfl)
  have n0 : ∀ i, w'.cell? ⟨g, i, none⟩ = w.cell? ⟨g, i, none⟩ := fun i => World.cell?_of_block (a := ⟨g, i, none⟩) kg
  obtain ⟨t1, t2⟩ := table_of h.out h.oo (kb bo h.out.lt h.ne.2.2 (fun e => (h.hi _ e).2.1 rfl)) (fun k hk => kb k (h.ho k hk).2.2 (h.ho k hk).2.1 (fun e => h.hoi k hk e)) hM.size
  refine ⟨(n0 0).trans h.c0, (n0 1).trans h.c1, (n0 2).trans h.c2, (n0 3).trans h.c3, (n0 4).trans h.c4, (World.frozen?_of_block (a := ⟨g, 4, none⟩) kg).trans h.f4, t1, hD.rs.tb, t2, hD.rs.ow, fun k hk => ⟨(h.ho k hk).1, (h.ho k hk).2.1, Nat.lt_of_lt_of_le (h.ho k hk).2.2 hM.size⟩, ?_, ?_, h.ne⟩
  · intro k hk
    have hk2 := hD.rs.O0 k hk
    rcases hD.oc with e | ⟨q, hq, e⟩
    · rw [e] at hk; exact ⟨(h.hi k hk).1, (h.hi k hk).2.1, hk2⟩
    · rw [e] at hk; have := Option.some.inj hk; have := h.out.lt; exact ⟨by omega, by omega, hk2⟩
  · intro k hk e2
    rcases hD.oc with e | ⟨q, hq, e⟩
    · rw [e] at e2; exact h.hoi k hk e2
    · rw [e] at e2; have := Option.some.inj e2; have := (h.ho k hk).2.2; omega
end
set_option maxRecDepth 100000 in
set_option maxHeartbeats 8000000 in
theorem hdec_told (v : Value) (l : List Fld) (w : World) (g bo bi : Nat) (max so si : Int) (Oo Oi B : Option Nat) (lo li : List Fld) (hC : IsCoder w g bo bi max Oo Oi lo li so si false)
    (hv : BA.BytesAt w v (encL max l li si).1) (hvB : v.ownBlock = B) (hB0 : ∀ k, B = some k → k < w.heap.size ∧ k ≠ bi ∧ some k ≠ Oi) (hf : fullB l = false) (hlong : longB l = false) (hlen : li.length + l.length ≤ 1000000) :
    Calls Try.prog 12 #[.pointer (some ⟨g, 0, none⟩), v] w fun e w' => ∃ a c lc sc O, e = .returned (.tuple #[.slice a l.length c, .nilIface]) ∧ Hid ((lc, sc) = (encL max l li si).2) ∧ At encF w' (.slice a l.length c) l ∧ (∀ k, (Value.slice a l.length c).ownBlock = some k → w.heap.size ≤ k ∧ k < w'.heap.size ∧ O ≠ some k) ∧ IsCoder w' g bo bi max Oo O lo lc so sc false ∧ (O = Oi ∨ ∃ k, w.heap.size ≤ k ∧ O = some k) ∧ Mod (fun k => k = g ∨ k = bi ∨ some k = Oi) w w' := by
  have HDT := Lib.hid (dec_told v l w g bo bi max so si Oo Oi B lo li false hC hv hvB hB0 hf hlong hlen)
  have HC := Lib.hid hC
  have hgl : g < w.heap.size := block_lt_of_cell hC.c0
  have c4 := hC.c4
  obtain ⟨ab, L, cb, rfl, hL, hcap⟩ : ∃ a L c, v = .slice a L c ∧ (encL max l li si).1.length = L ∧ L ≤ c := by obtain ⟨x, c, e, h1, -⟩ := hv.open; exact ⟨_, _, _, e, rfl, h1⟩
  clear hC hv hvB hB0 hf hlong hL
  go_enter Try.func12, Try.ntmps12
  go_wp2_with (first
    | (go_at_call 24; refine HDT.out.mono ?_; rintro e w2 ⟨a, c, lc, sc, O, rfl, hq, r, b, hD⟩; have HQ := Lib.hid hq; have HD := Lib.hid hD; have HC2 := Lib.hid (DS.coder HC.out hD); have d4 := HC2.out.c4; have df := HC2.out.f4; clear hq hD)
    | fail)
  go_ret2
  have hM2 := HD.out.m
  have hM3 : Mod (fun k => k = g ∨ k = bi ∨ some k = Oi) w (w2.setCell ⟨g, 4, none⟩ (.bool false)) := (hM2.mono (T := fun k => k = g ∨ k = bi ∨ some k = Oi) (fun k _ h => .inr h)).setCell (fun _ => .inl rfl) _
  refine ⟨a, c, lc, sc, O, rfl, HQ.out.out, ?_, fun k hk => ?_, HC2.out.setBad false, HD.out.oc, hM3⟩
  · refine HD.out.own.at_.of_block (fun k hk => ?_) (by simp)
    have hM4 : Mod (fun k => k = g) w2 (w2.setCell ⟨g, 4, none⟩ (.bool false)) := (Mod.refl (fun k => k = g) w2).setCell (fun _ => rfl) _
    exact hM4.block k (HD.out.own.lt k hk).2 (by have := (HD.out.own.lt k hk).1; have := HD.out.rr; omega)
  · have h1 := HD.out.own.lt k hk; have h2 := HD.out.rr; exact ⟨by omega, by simpa using h1.2, HD.out.ol k hk⟩
end Go.Proofs.Ytbbhinhledkceaa.HeadF
