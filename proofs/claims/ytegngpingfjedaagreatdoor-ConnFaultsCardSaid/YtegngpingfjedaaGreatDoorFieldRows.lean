/-
  Slices of fields (a name and a value): how they are written down; slices.Insert ahead of all, over this seat's translation.
  Conditions: the length.
-/
import Derived.Test.YtegngpingfjedaaGreatDoorProg
import Derived.Test.YtegngpingfjedaaGreatDoorRowsK
import Derived.WalkSpells
import Derived.WalkLawsBesides
import Derived.Lib.Walk
import Derived.Lib.SliceRun
import Derived.Lib.JoinLaws
import Derived.Lib.AppendZeros
import Derived.Lib.AppendZerosOnto
import Derived.Lib.Overlaps
import Derived.Laws.Externs
import Derived.Laws.IdiomCopy
import Derived.Shelf.Spec.SlicesInsert
namespace Go.Proofs.YtegngpingfjedaaGreatDoor.FieldRows
open Go.RowKit RowsK
set_option linter.unusedSimpArgs false
set_option linter.unusedVariables false

/-- A field: its name, its value. -/
abbrev Fld := ByteArray × ByteArray
def encF : Enc Fld := ⟨2, fun f => [.string f.1, .string f.2], fun _ => rfl, fun x v hv => by simp at hv; rcases hv with rfl | rfl <;> rfl, by decide⟩
theorem elemF : Elem Tryz.prog 35 34 encF.k 32 := Elem.of (z := .agg #[.string ⟨#[]⟩, .string ⟨#[]⟩]) Tryz.underlying35 (by kernel_rfl) rfl (by decide)
set_option maxRecDepth 100000 in
set_option maxHeartbeats 4000000 in
theorem insert_nil (base : Nat) (v : Value) (f : Fld) (w : World) (vb : Nat) (h : Own encF w base 34 v []) (hv : At encF w (.slice (some ⟨vb, 0, none⟩) 1 1) [f]) (hb : base ≤ w.heap.size) :
    Calls Tryz.prog 82 #[v, .int .i64 0, .slice (some ⟨vb, 0, none⟩) 1 1] w fun e w' => ∃ v', e = .returned v' ∧ Own encF w' base 34 v' [f] ∧ w.grownBy w' v.ownBlock ∧ (v'.ownBlock = v.ownBlock ∨ v'.ownBlock = some w.heap.size) := by
  have HO := Lib.hid h
  have HV := Lib.hid hv
  obtain ⟨a, cap, rfl, h1, h2, _, _⟩ := h.slice
  clear hv h
  go_enter Tryz.func82, Tryz.ntmps82
  go_wp2_with (at_builtin; refine wpList_append elemF rfl _ _ rfl base _ rfl HO.out _ _ rfl HV.out (by simp) hb ?_; intro v' w' hown hB hg hat)
  go_ret
  exact ⟨_, rfl, by simpa using hown, hg, hat⟩
theorem run_overlaps_ext (w : World) (g vb : Nat) (o lb cb : Nat) (hne : vb ≠ g) (cv cg : Array Value) (hv : w.heap[vb]? = some (.cells cv 34 (0, 0))) (hg : w.heap[g]? = some (.cells cg 34 (0, 0))) (hcg : cg.size ≠ 0) :
    (callFunc 120 #[.slice (some ⟨vb, 0, none⟩) 1 1, .slice (some ⟨g, o, none⟩) lb cb]).run Tryz.prog w = .ok (.value (.bool false)) w := by
  have h1 := Lib.run_overlaps_apart (P := Tryz.prog) w 35 4 34 Tryz.underlying35 2 (by intro w; exact Tryz.sizeOf34 w) ⟨vb, 0, none⟩ ⟨g, o, none⟩ 1 1 lb cb hne 34 34 cv.size cg.size
    (by simp [World.shape?, hv]) (by simp [World.shape?, hg]) hcg (by simp [World.frozen?, hv]) (by simp [World.frozen?, hv])
  rw [run_callFunc_extern Tryz.func120 (by kernel_rfl) (by kernel_rfl) (by kernel_rfl) (e := Extern.SlicesOverlaps.overlaps #[35, 35] #[4]) (by kernel_rfl), h1]
  rfl
set_option maxRecDepth 100000 in
set_option maxHeartbeats 4000000 in
theorem insert_room (base g n c : Nat) (l : List Fld) (f : Fld) (w : World) (vb : Nat) (h : Own encF w base 34 (.slice (some ⟨g, 0, none⟩) n c) l) (hn : 0 < l.length) (hroom : n + 1 ≤ c) (hv : At encF w (.slice (some ⟨vb, 0, none⟩) 1 1) [f]) (hne : vb ≠ g)
    (cv : Array Value) (hcv : w.heap[vb]? = some (.cells cv 34 (0, 0))) (hb : base ≤ w.heap.size) :
    Calls Tryz.prog 82 #[.slice (some ⟨g, 0, none⟩) n c, .int .i64 0, .slice (some ⟨vb, 0, none⟩) 1 1] w fun e w' => e = .returned (.slice (some ⟨g, 0, none⟩) (n + 1) c) ∧ Own encF w' base 34 (.slice (some ⟨g, 0, none⟩) (n + 1) c) (f :: l) ∧ w.grownBy w' (some g) := by
  have HO := Lib.hid h
  obtain ⟨a, cap, e, h1, h2, _, h4⟩ := h.slice
  simp only [Value.slice.injEq] at e
  obtain ⟨rfl, rfl, rfl⟩ := e
  obtain ⟨g', cur, e, hbg, hlt, hg, hcs, htake⟩ := h4 _ rfl
  simp only [Addr.mk.injEq, and_true] at e
  subst e
  have hov := fun o lb cb => run_overlaps_ext w g vb o lb cb hne cv cur hcv hg (by rw [hcs]; show c * 2 ≠ 0; omega)
  generalize hln : l.length = n at *
  have hsz : (Tryz.prog.info? 34).map (·.size) = some 2 := by kernel_rfl
  have hfl : (encF.flat l).length = n * 2 := by rw [encF.flat_len, hln]; rfl
  have hcs2 : cur.size = c * 2 := hcs
  have htk : cur.toList.take (n * 2) = encF.flat l := htake
  obtain ⟨C1, hC1⟩ : ∃ C1, C1 = (cur.toList.take 2 ++ encF.flat l ++ cur.toList.drop (2 + n * 2)).toArray := ⟨_, rfl⟩
  have hC1s : C1.size = c * 2 := by rw [hC1]; simp [hfl, hcs2]; omega
  have hcp1 : ∀ ty dc sc, (Builtin.copy_ #[35, 35] ty #[.slice (some ⟨g, 2, none⟩) n dc, .slice (some ⟨g, 0, none⟩) (n + 1) sc]).run Tryz.prog w.drew = .ok (goInt n) (w.drew.setRow g C1) := fun ty dc sc => by
    have := run_copy_row_k (P := Tryz.prog) w.drew 35 35 ty 34 2 g 2 n dc ⟨g, 0, none⟩ (n + 1) sc cur 34 (encF.flat l) Tryz.underlying35 hsz hg (by rw [hfl]; congr 1; simp only [Nat.min_def]; split <;> omega)
      (World.ownsRow.cells HO.out (g := g) rfl) (by rw [hfl]; omega) (encF.flat_one l)
    rw [hfl] at this
    rw [hC1, show n = Nat.min (n + 1) n by simp only [Nat.min_def]; split <;> omega]
    rw [show Nat.min (n + 1) n = n by simp only [Nat.min_def]; split <;> omega] at this ⊢
    exact this
  obtain ⟨C2, hC2⟩ : ∃ C2, C2 = (encF.enc f ++ C1.toList.drop 2).toArray := ⟨_, rfl⟩
  have hg1 : (w.drew.setRow g C1).heap[g]? = some (.cells C1 34 (0, 0)) := setRow_heap w.drew g cur C1 34 (0, 0) hg
  have hVc := (hv.of_block (w' := w.drew.setRow g C1) (fun k hk => by
    have : k = vb := by simpa [Value.ownBlock] using hk.symm
    subst this
    exact setRow_other w.drew g k C1 hne) (by simp)).cells.2
  have hcp2 : ∀ ty dc, (Builtin.copy_ #[35, 35] ty #[.slice (some ⟨g, 0, none⟩) (n + 1) dc, .slice (some ⟨vb, 0, none⟩) 1 1]).run Tryz.prog (w.drew.setRow g C1) = .ok (goInt 1) (w.drew.setRow g C2) := fun ty dc => by
    have := run_copy_row_k (P := Tryz.prog) (w.drew.setRow g C1) 35 35 ty 34 2 g 0 (n + 1) dc ⟨vb, 0, none⟩ 1 1 C1 34 (encF.flat [f]) Tryz.underlying35 hsz hg1 (by rw [encF.flat_len, show Nat.min 1 (n + 1) = 1 by simp only [Nat.min_def]; split <;> omega]; rfl)
      hVc (by rw [encF.flat_len]; show 0 + 1 * 2 ≤ _; omega) (encF.flat_one [f])
    rw [show Nat.min 1 (n + 1) = 1 by simp only [Nat.min_def]; split <;> omega, setRow_setRow] at this
    rw [this, hC2]
    rfl
  have HFIN : Hid (Own encF (w.drew.setRow g C2) base 34 (.slice (some ⟨g, 0, none⟩) (n + 1) c) (f :: l) ∧ w.grownBy (w.drew.setRow g C2) (some g)) := by
    refine ⟨⟨by rw [encF.flat_len], .inr ⟨g, c, C2, by simp [hln], hbg, setRow_heap w.drew g cur C2 34 (0, 0) hg, by simp [hln]; exact hroom, by simpa [maxLen] using h2, ?_, ?_⟩⟩, ⟨rfl, rfl, rfl, by simp, fun k _ hk => setRow_other w.drew g k _ (fun e => hk (by simp [e]))⟩⟩
    · rw [hC2]; simp [encF, hC1s]; omega
    · rw [hC2, hC1]
      have e2 : (cur.toList.take 2).length = 2 := by simp; omega
      simp only [List.length_cons, hln]
      show ((encF.enc f ++ List.drop 2 (List.take 2 cur.toList ++ encF.flat l ++ List.drop (2 + n * 2) cur.toList)).take ((n + 1) * 2)) = encF.flat (f :: l)
      rw [List.append_assoc, List.drop_append_of_le_length (by omega), List.drop_eq_nil_of_le (by omega), List.nil_append, encF.flat_cons, ← List.append_assoc]
      exact List.take_left' (by rw [List.length_append, hfl, encF.len]; show 2 + n * 2 = (n + 1) * 2; omega)
  have mixed : Tryz.prog.follows Departure.mixedOrders = true := by kernel_rfl
  have hw1 : IntKind.i64.wrap 1 = 1 := rfl
  have hw2 : (1 : Int) ≤ (n : Int) + 1 := by omega
  have hw3 : ¬ (c = 1) := by omega
  have hw4 : (0 : Int) ≤ (n : Int) + 1 := by omega
  have hw5 : ¬ (c = 0) := by omega
  clear h h4 hcs hcs2 htk htake hg hg1 hVc hC1 hC2 hC1s hv hcv hfl hsz
  go_enter Tryz.func82, Tryz.ntmps82
  go_wp2_with (simp only [hov])
  go_region_law_o (refine Go.Proofs.step_copy_runI rfl _ _ 35 35 rfl _ _ (by simp [Act.eval, Act.put]) (by simp [Act.eval, Act.put]) (hcp1 _ _ _) ?_)
  go_wp2_with (at_builtin; refine Go.Proofs.wpList_copy_runI _ rfl _ _ 35 35 rfl _ _ rfl rfl (hcp2 _ _) ?_)
  go_ret
  exact ⟨rfl, HFIN.out⟩
theorem getRow_alloc (w : World) (C : Array Value) (t : TypeId) : (w.drew.alloc (.cells C t)).heap[w.heap.size]? = some (.cells C t (0, 0)) := heap_alloc_new w.drew _
set_option maxRecDepth 100000 in
set_option maxHeartbeats 4000000 in
theorem insert_grow (base g n c : Nat) (l : List Fld) (f : Fld) (w : World) (vb : Nat) (h : Own encF w base 34 (.slice (some ⟨g, 0, none⟩) n c) l) (hn : 0 < l.length) (hroom : c < n + 1) (hbig : l.length < 1000000000) (hv : At encF w (.slice (some ⟨vb, 0, none⟩) 1 1) [f]) (hvlt : vb < w.heap.size) (hb : base ≤ w.heap.size) :
    Calls Tryz.prog 82 #[.slice (some ⟨g, 0, none⟩) n c, .int .i64 0, .slice (some ⟨vb, 0, none⟩) 1 1] w fun e w' => ∃ v', e = .returned v' ∧ Own encF w' base 34 v' (f :: l) ∧ w.grownBy w' none ∧ v'.ownBlock = some w.heap.size := by
  have HO := Lib.hid h
  obtain ⟨a, cap, e, h1, h2, _, h4⟩ := h.slice
  simp only [Value.slice.injEq] at e
  obtain ⟨rfl, rfl, rfl⟩ := e
  obtain ⟨g', cur, e, hbg, hlt, hg, hcs, htake⟩ := h4 _ rfl
  simp only [Addr.mk.injEq, and_true] at e
  subst e
  obtain ⟨i0, z, hi, hz0, hzs, hzb, hzz⟩ := elemF.info
  generalize hln : l.length = n at *
  have hsz : (Tryz.prog.info? 34).map (·.size) = some 2 := by kernel_rfl
  have hfl : (encF.flat l).length = n * 2 := by rw [encF.flat_len, hln]; rfl
  have hold : (Builtin.firstCells i0.size 0 (.slice (some ⟨g, 0, none⟩) 0 c)).run Tryz.prog w.drew = .ok ([] : List Value).toArray w.drew :=
    run_firstCells_some w.drew i0.size 0 ⟨g, 0, none⟩ 0 c [] (by simp) (by simp)
  have hkk : (n : Int) + 1 - 0 = ((n + 1 : Nat) : Int) := by omega
  have hkk2 : (n : Int) + 1 = ((n + 1 : Nat) : Int) := by omega
  have hrz : ∀ ty, (Builtin.append_ #[35, 3] ty #[.slice (some ⟨g, 0, none⟩) 0 c, .int .i64 ((n : Int) + 1)]).run Tryz.prog w =
      .ok (.slice (some ⟨w.heap.size, 0, none⟩) (n + 1) (grownCap w (n + 1) c 34)) (w.drew.alloc (.cells (([] : List Value).toArray ++ Builtin.zeroCells z.cells (n + 1) ++ Builtin.zeroCells z.cells (grownCap w (n + 1) c 34 - (n + 1))) 34)) := fun ty => by
    have h := Lib.run_append_grow_zeros (P := Tryz.prog) w 35 3 ty 34 i0 z .i64 .i64 Tryz.underlying35 Tryz.underlying3 hi hz0 (some ⟨g, 0, none⟩) 0 c [] hold (n + 1) (by omega) (by rw [hzs]; decide) (by omega) (by omega) (by rw [hzb]; omega) (by rw [hzb, Nat.zero_add]; exact growslice_fits hroom (by omega))
    rw [Nat.zero_add] at h
    rw [hkk2]
    exact h
  have hGn : n + 1 ≤ grownCap w (n + 1) c 34 := grownCap_ge w _ _ _
  have hG63 : grownCap w (n + 1) c 34 ≤ 9223372036854775807 := by
    have := grownCap_le_maxLen w (n + 1) c 34 (by unfold maxLen; omega)
    simpa [maxLen] using this
  obtain ⟨G, hG⟩ : ∃ G, G = grownCap w (n + 1) c 34 := ⟨_, rfl⟩
  rw [← hG] at hrz hGn hG63
  obtain ⟨Z, hZ⟩ : ∃ Z, Z = (([] : List Value).toArray ++ Builtin.zeroCells z.cells (n + 1) ++ Builtin.zeroCells z.cells (G - (n + 1))) := ⟨_, rfl⟩
  have hZs : Z.size = G * 2 := by
    rw [hZ]
    simp only [Array.size_append, size_zeroCells, hzz, List.size_toArray, List.length_nil]
    show 0 + (n + 1) * 2 + (G - (n + 1)) * 2 = G * 2
    omega
  rw [← hZ] at hrz
  obtain ⟨W1, hW1⟩ : ∃ W1, W1 = w.drew.alloc (.cells Z 34) := ⟨_, rfl⟩
  rw [← hW1] at hrz
  have hNrow : W1.heap[w.heap.size]? = some (.cells Z 34 (0, 0)) := by rw [hW1]; exact getRow_alloc w Z _
  obtain ⟨C1, hC1⟩ : ∃ C1, C1 = (encF.enc f ++ Z.toList.drop 2).toArray := ⟨_, rfl⟩
  have hC1s : C1.size = G * 2 := by rw [hC1]; simp [encF, hZs]; omega
  obtain ⟨C2, hC2⟩ : ∃ C2, C2 = (C1.toList.take 2 ++ encF.flat l ++ C1.toList.drop (2 + n * 2)).toArray := ⟨_, rfl⟩
  have hVf : ∀ W : World, W.heap = W1.heap → At encF W (.slice (some ⟨vb, 0, none⟩) 1 1) [f] := fun W hW => hv.of_block (fun k hk => by
    have : k = vb := by simpa [Value.ownBlock] using hk.symm
    subst this
    rw [hW, hW1]
    exact heap_alloc_old w.drew _ hvlt) (by rw [hW, hW1]; simp)
  have hOf : ∀ W : World, W.heap = (W1.setRow w.heap.size C1).heap → ∀ j u, (encF.flat l)[j]? = some u → W.cell? ((⟨g, 0, none⟩ : Addr).add j) = some u := fun W hW => World.ownsRow.cells (w := W) ((HO.out.of_block (w' := W) fun k hk => by
    have : k = g := by simpa [Value.ownBlock] using hk.symm
    subst this
    rw [hW, setRow_other W1 w.heap.size k C1 (by omega), hW1]
    exact heap_alloc_old w.drew _ hlt)) (g := g) rfl
  have hcpA : ∀ W : World, W.heap = W1.heap → ∀ ty dc, (Builtin.copy_ #[35, 35] ty #[.slice (some ⟨w.heap.size, 0, none⟩) (n + 1) dc, .slice (some ⟨vb, 0, none⟩) 1 1]).run Tryz.prog W = .ok (goInt 1) (W.setRow w.heap.size C1) := fun W hW ty dc => by
    have := run_copy_row_k (P := Tryz.prog) W 35 35 ty 34 2 w.heap.size 0 (n + 1) dc ⟨vb, 0, none⟩ 1 1 Z 34 (encF.flat [f]) Tryz.underlying35 hsz (by rw [hW]; exact hNrow) (by rw [encF.flat_len, show Nat.min 1 (n + 1) = 1 by simp only [Nat.min_def]; split <;> omega]; rfl)
      (hVf W hW).cells.2 (by rw [encF.flat_len]; show 0 + 1 * 2 ≤ _; omega) (encF.flat_one [f])
    rw [show Nat.min 1 (n + 1) = 1 by simp only [Nat.min_def]; split <;> omega] at this
    rw [this, hC1]
    rfl
  have hN1 : ∀ W : World, W.heap = (W1.setRow w.heap.size C1).heap → W.heap[w.heap.size]? = some (.cells C1 34 (0, 0)) := fun W hW => by rw [hW]; exact setRow_heap W1 w.heap.size Z C1 34 (0, 0) hNrow
  have hcpB : ∀ W : World, W.heap = (W1.setRow w.heap.size C1).heap → ∀ ty dc sc, (Builtin.copy_ #[35, 35] ty #[.slice (some ⟨w.heap.size, 2, none⟩) n dc, .slice (some ⟨g, 0, none⟩) n sc]).run Tryz.prog W = .ok (goInt n) (W.setRow w.heap.size C2) := fun W hW ty dc sc => by
    have := run_copy_row_k (P := Tryz.prog) W 35 35 ty 34 2 w.heap.size 2 n dc ⟨g, 0, none⟩ n sc C1 34 (encF.flat l) Tryz.underlying35 hsz (hN1 W hW) (by rw [hfl]; congr 1; simp only [Nat.min_def]; split <;> omega)
      (hOf W hW) (by rw [hfl]; omega) (encF.flat_one l)
    rw [hfl, show Nat.min n n = n by simp only [Nat.min_def]; split <;> omega] at this
    rw [this, hC2]
  have HFIN : Hid (∀ W : World, W.heap = ((W1.setRow w.heap.size C1).setRow w.heap.size C2).heap → W.os = w.os → W.tape = w.tape → W.output = w.output → Own encF W base 34 (.slice (some ⟨w.heap.size, 0, none⟩) (n + 1) G) (f :: l) ∧ w.grownBy W none) := by
    intro W hW e1 e2 e3
    refine ⟨⟨by rw [encF.flat_len], .inr ⟨w.heap.size, G, C2, by simp [hln], hb, ?_, by simp [hln]; omega, by simpa [maxLen] using hG63, ?_, ?_⟩⟩, ⟨e1, e2, e3, ?_, fun k hk _ => ?_⟩⟩
    · rw [hW]; exact setRow_heap (W1.setRow w.heap.size C1) w.heap.size C1 C2 34 (0, 0) (hN1 _ rfl)
    · rw [hC2, List.size_toArray, List.length_append, List.length_append, hfl, List.length_take, List.length_drop, Array.length_toList, hC1s]
      show min 2 (G * 2) + n * 2 + (G * 2 - (2 + n * 2)) = G * 2
      omega
    · rw [hC2, hC1]
      simp only [List.length_cons, hln]
      have e2 : (encF.enc f ++ List.drop 2 Z.toList).take 2 = encF.enc f := List.take_left' rfl
      show (((encF.enc f ++ List.drop 2 Z.toList).take 2 ++ encF.flat l ++ (encF.enc f ++ List.drop 2 Z.toList).drop (2 + n * 2)).take ((n + 1) * 2)) = encF.flat (f :: l)
      rw [e2, encF.flat_cons]
      exact List.take_left' (by rw [List.length_append, hfl, encF.len]; show 2 + n * 2 = (n + 1) * 2; omega)
    · rw [hW, hW1]; simp
    · rw [hW, setRow_other _ _ _ _ (by omega), setRow_other _ _ _ _ (by omega), hW1]
      exact heap_alloc_old w.drew _ hk
  have HW1 : Hid (W1.os = w.os ∧ W1.tape = w.tape ∧ W1.output = w.output) := by rw [hW1]; exact ⟨rfl, rfl, rfl⟩
  clear hW1
  have mixed : Tryz.prog.follows Departure.mixedOrders = true := by kernel_rfl
  have hw1 : IntKind.i64.wrap 1 = 1 := rfl
  have hw2 : (1 : Int) ≤ (n : Int) + 1 := by omega
  have hw3 : ¬ (G = 1) := by omega
  have hw4 : (0 : Int) ≤ (n : Int) + 1 := by omega
  have hw5 : ¬ (c = 0) := by omega
  have hw6 : ¬ (G = 0) := by omega
  have hgne : ¬ (c = 0) := by omega
  have HG := Lib.hid hG63
  clear h h4 hcs htake hg hNrow hC1 hC2 hC1s hZs hZ hzz hz0 hi hzs hzb hold hOf hVf hN1 hG hkk hkk2 hfl hsz hv
  go_enter Tryz.func82, Tryz.ntmps82
  go_wp2_with (first
    | (at_builtin; refine Lib.wpList_append_run _ rfl _ _ _ _ rfl _ _ rfl rfl _ _ (hrz _) ?_)
    | (at_builtin; refine Go.Proofs.wpList_copy_runI _ rfl _ _ 35 35 rfl _ _ rfl rfl (hcpA _ (by rfl) _ _) ?_)
    | (at_builtin; refine Go.Proofs.wpList_copy_runI _ rfl _ _ 35 35 rfl _ _ rfl rfl (hcpB _ (by rfl) _ _ _) ?_))
  have hw7 : (0 : Int) ≤ (n : Int) := by omega
  go_region_law_o (refine Go.Proofs.step_copy_runI rfl _ _ 35 35 rfl _ _ (by simp [Act.eval, Act.put]) (by simp [Act.eval, Act.put]) (hcpB ((W1.setRow w.heap.size C1).drew) rfl 3 (G - 1) c) ?_)
  go_wp2
  go_ret
  obtain ⟨f1, f2⟩ := HFIN.out ((W1.setRow w.heap.size C1).drew.setRow w.heap.size C2) rfl HW1.out.1 HW1.out.2.1 HW1.out.2.2
  exact ⟨_, rfl, f1, f2, rfl⟩
/-- slices.Insert(s, 0, f). -/
theorem insert_any (base : Nat) (v : Value) (l : List Fld) (f : Fld) (w : World) (vb : Nat) (h : Own encF w base 34 v l) (hbig : l.length < 1000000000) (hvb : v.ownBlock ≠ some vb)
    (hv : At encF w (.slice (some ⟨vb, 0, none⟩) 1 1) [f]) (cv : Array Value) (hcv : w.heap[vb]? = some (.cells cv 34 (0, 0))) (hb : base ≤ w.heap.size) :
    Calls Tryz.prog 82 #[v, .int .i64 0, .slice (some ⟨vb, 0, none⟩) 1 1] w fun e w' => ∃ v', e = .returned v' ∧ Own encF w' base 34 v' (f :: l) ∧ w.grownBy w' v.ownBlock ∧ (v'.ownBlock = v.ownBlock ∨ v'.ownBlock = some w.heap.size) := by
  have hvlt : vb < w.heap.size := (Array.getElem?_eq_some_iff.1 hcv).1
  by_cases hl : l = []
  · subst hl
    exact insert_nil base v f w vb h hv hb
  · have hn : 0 < l.length := List.length_pos_iff.2 hl
    obtain ⟨a, c, rfl, h1, h2, h3, h4⟩ := h.slice
    cases a with
    | none => exact absurd (h3 rfl).1 hl
    | some x =>
      obtain ⟨g, cur, rfl, _⟩ := h4 x rfl
      by_cases hroom : l.length + 1 ≤ c
      · refine (insert_room base g l.length c l f w vb h hn hroom hv (fun e => hvb (by rw [e]; rfl)) cv hcv hb).mono ?_
        rintro e w' ⟨rfl, q1, q2⟩
        exact ⟨_, rfl, q1, q2, .inl rfl⟩
      · refine (insert_grow base g l.length c l f w vb h hn (by omega) hbig hv hvlt hb).mono ?_
        rintro e w' ⟨v', rfl, q1, q2, q3⟩
        exact ⟨_, rfl, q1, ⟨q2.os, q2.tape, q2.output, q2.size, fun k hk _ => q2.block k hk (by simp)⟩, .inr q3⟩
end Go.Proofs.YtegngpingfjedaaGreatDoor.FieldRows
