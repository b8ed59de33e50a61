/-
  route.Parse over this seat's translation, exactly.
  Conditions: the text's length; the cell of bytealg.MaxLen.
-/
import Derived.Test.YteadmakhcpjpnaaDoorLines
import Derived.Test.YteadmakhcpjpnaaDoorParseW
import Derived.Test.YteadmakhcpjpnaaDoorRound
import Derived.Test.YteadmakhcpjpnaaDoorRowsMore
import Derived.Test.YteadmakhcpjpnaaDoorRowsClear
import Derived.Deep.RegionHeld3
namespace Go.Proofs.YteadmakhcpjpnaaDoor.RouteC
open Go.RowKit Go.Shelf RowsK RangeC LinesP LinesC RoundL LogP
set_option linter.unusedVariables false
set_option linter.unusedSimpArgs false

attribute [local go_sem] Oper.semAt_some

theorem cell3_0 {W : World} {s : Nat} {o a b c : Value} (h : W.cell? ⟨s, 0, none⟩ = some o) : (((W.setCell ⟨s, 0, none⟩ a).setCell ⟨s + 1, 0, none⟩ b).setCell ⟨s + 1 + 1, 0, none⟩ c).cell? ⟨s, 0, none⟩ = some a := by
  rw [World.cell?_setCell_other _ _ _ _ (fun e => by have := congrArg Addr.block e; simp at this; omega), World.cell?_setCell_other _ _ _ _ (fun e => by have := congrArg Addr.block e; simp at this)]
  exact World.cell?_setCell_same _ _ _ h
theorem cell3_1 {W : World} {s : Nat} {o a b c : Value} (h : W.cell? ⟨s + 1, 0, none⟩ = some o) : (((W.setCell ⟨s, 0, none⟩ a).setCell ⟨s + 1, 0, none⟩ b).setCell ⟨s + 1 + 1, 0, none⟩ c).cell? ⟨s + 1, 0, none⟩ = some b := by
  rw [World.cell?_setCell_other _ _ _ _ (fun e => by have := congrArg Addr.block e; simp at this)]
  exact World.cell?_setCell_same _ _ _ ((World.cell?_setCell_other _ _ _ _ (fun e => by have := congrArg Addr.block e; simp at this)).trans h)
theorem cell3_2 {W : World} {s : Nat} {o a b c : Value} (h : W.cell? ⟨s + 1 + 1, 0, none⟩ = some o) : (((W.setCell ⟨s, 0, none⟩ a).setCell ⟨s + 1, 0, none⟩ b).setCell ⟨s + 1 + 1, 0, none⟩ c).cell? ⟨s + 1 + 1, 0, none⟩ = some c := by
  exact World.cell?_setCell_same _ _ _ ((World.cell?_setCell_other _ _ _ _ (fun e => by have := congrArg Addr.block e; simp at this)).trans ((World.cell?_setCell_other _ _ _ _ (fun e => by have := congrArg Addr.block e; simp at this; omega)).trans h))
theorem load_of {P : Program} {t : TypeId} {a : Addr} {v : Value} {w : World} (ha : ∀ w, (isAgg t).run P w = .ok false w) (hc : w.cell? a = some v) : (loadVar t a).run P w = .ok v w := by
  simp [loadVar, Sem.run_bind, ha, Result.andThen, run_load, hc]
theorem results_cell3 {P : Program} {fn : Func} {p q r : Tmp} {t0 t1 t2 : TypeId} {a0 a1 a2 : Addr} {v0 v1 v2 : Value} {tmps : Array Value} {w : World} (h : fn.results = #[.cell p t0, .cell q t1, .cell r t2])
    (h0 : tmps.getD p undef = .pointer (some a0)) (h1 : tmps.getD q undef = .pointer (some a1)) (h2 : tmps.getD r undef = .pointer (some a2)) (l0 : (loadVar t0 a0).run P w = .ok v0 w) (l1 : (loadVar t1 a1).run P w = .ok v1 w) (l2 : (loadVar t2 a2).run P w = .ok v2 w) :
    (results fn tmps).run P w = .ok (.tuple #[v0, v1, v2]) w := by
  simp only [Array.getD_eq_getD_getElem?] at h0 h1 h2
  simp only [results, h]
  simp [Sem.run_bind, Result.andThen, h0, h1, h2, asAddr, l0, l1, l2]
/-- Parse's own variables: its three results, and the routes so far. -/
structure PV (W : World) (s : Nat) (r0 r1 r2 lv : Value) : Prop where
  c0 : W.cell? ⟨s, 0, none⟩ = some r0
  c1 : W.cell? ⟨s + 1, 0, none⟩ = some r1
  c2 : W.cell? ⟨s + 1 + 1, 0, none⟩ = some r2
  c3 : W.cell? ⟨s + 1 + 1 + 1, 0, none⟩ = some lv
  f0 : W.frozen? ⟨s, 0, none⟩ = false
  f1 : W.frozen? ⟨s + 1, 0, none⟩ = false
  f2 : W.frozen? ⟨s + 1 + 1, 0, none⟩ = false
  f3 : W.frozen? ⟨s + 1 + 1 + 1, 0, none⟩ = false
theorem PV.keep {W W' : World} {s : Nat} {r0 r1 r2 lv : Value} (h : PV W s r0 r1 r2 lv) (hk : ∀ k, k < s + 4 → W'.heap[k]? = W.heap[k]?) : PV W' s r0 r1 r2 lv :=
  ⟨(World.cell?_of_block (a := ⟨s, 0, none⟩) (hk _ (by simp only; omega))).trans h.c0, (World.cell?_of_block (a := ⟨s + 1, 0, none⟩) (hk _ (by simp only; omega))).trans h.c1, (World.cell?_of_block (a := ⟨s + 1 + 1, 0, none⟩) (hk _ (by simp only; omega))).trans h.c2,
    (World.cell?_of_block (a := ⟨s + 1 + 1 + 1, 0, none⟩) (hk _ (by simp only; omega))).trans h.c3, (World.frozen?_of_block (a := ⟨s, 0, none⟩) (hk _ (by simp only; omega))).trans h.f0, (World.frozen?_of_block (a := ⟨s + 1, 0, none⟩) (hk _ (by simp only; omega))).trans h.f1,
    (World.frozen?_of_block (a := ⟨s + 1 + 1, 0, none⟩) (hk _ (by simp only; omega))).trans h.f2, (World.frozen?_of_block (a := ⟨s + 1 + 1 + 1, 0, none⟩) (hk _ (by simp only; omega))).trans h.f3⟩
/-- The activation in a round. -/
def actR (s : Nat) (text x : ByteArray) : Act := { tmps := #[.string text, undef, .pointer (some ⟨s, 0, none⟩), .pointer (some ⟨s + 1, 0, none⟩), .pointer (some ⟨s + 1 + 1, 0, none⟩), .pointer (some ⟨s + 1 + 1 + 1, 0, none⟩), .string x, undef, undef, undef, undef, .string text, .func (.func 22) #[] #[.pointer (some ⟨s + 1 + 1 + 1 + 1, 0, none⟩)], .string x, undef, undef, undef, undef, undef, undef, undef, undef, undef, undef, undef, undef, undef, undef, undef, undef, undef, undef, undef, undef, undef, undef, undef, undef, undef, undef, undef, undef, undef, undef, undef, undef, undef, undef, undef, undef, undef, undef, undef, undef, undef, undef, undef, undef, undef, undef, undef, undef, undef, undef, undef, undef, undef, undef, undef, undef, undef, undef, undef, undef, undef], defers := [] }
/-- Between two rounds. -/
def Inv (w : World) (s : Nat) (pre : List Ln) (W : World) : Prop :=
  ∃ (lv : Value) (l : List RT), runP [] (bytesLn pre) = (0, l) ∧ PV W s (.slice none 0 0) (.int .i64 0) .nilIface lv ∧ RowsK.Own encR W (s + 5) 28 lv l ∧ Below s w W ∧ s + 5 ≤ W.heap.size ∧ l.length ≤ 20
/-- A round has found a fault. -/
def Bad (w : World) (s : Nat) (pre : List Ln) (W : World) : Prop :=
  ∃ (lv : Value) (l : List RT) (k : Int), runP [] (bytesLn pre) = (k, l) ∧ k ≠ 0 ∧ PV W s (.slice none 0 0) (.int .i64 (l.length : Nat)) (errV k) lv ∧ Below s w W ∧ s + 5 ≤ W.heap.size
theorem own_block {e : Enc RT} {W : World} {b g : Nat} {t : TypeId} {v : Value} {l : List RT} (h : RowsK.Own e W b t v l) (hg : v.ownBlock = some g) : ∃ o : Obj, W.heap[g]? = some o ∧ o.isCells = true := by
  obtain ⟨-, h2⟩ := h
  rcases h2 with ⟨rfl, -⟩ | ⟨g', cap, cur, rfl, -, hh, -⟩
  · cases hg
  · obtain rfl : g' = g := by simpa [Value.ownBlock] using hg
    exact ⟨_, hh, rfl⟩
theorem five_blocks (w : World) (a b c d e : Obj) : (((((w.alloc a).alloc b).alloc c).alloc d).alloc e).heap[w.heap.size]? = some a ∧ (((((w.alloc a).alloc b).alloc c).alloc d).alloc e).heap[w.heap.size + 1]? = some b ∧
    (((((w.alloc a).alloc b).alloc c).alloc d).alloc e).heap[w.heap.size + 1 + 1]? = some c ∧ (((((w.alloc a).alloc b).alloc c).alloc d).alloc e).heap[w.heap.size + 1 + 1 + 1]? = some d ∧ (((((w.alloc a).alloc b).alloc c).alloc d).alloc e).heap[w.heap.size + 1 + 1 + 1 + 1]? = some e := by
  have n0 := World.alloc_heap_new w a
  have n1 := World.alloc_heap_new (w.alloc a) b
  have n2 := World.alloc_heap_new ((w.alloc a).alloc b) c
  have n3 := World.alloc_heap_new (((w.alloc a).alloc b).alloc c) d
  have n4 := World.alloc_heap_new ((((w.alloc a).alloc b).alloc c).alloc d) e
  have z1 : (w.alloc a).heap.size = w.heap.size + 1 := World.size_alloc ..
  have z2 : ((w.alloc a).alloc b).heap.size = w.heap.size + 1 + 1 := by rw [World.size_alloc, z1]
  have z3 : (((w.alloc a).alloc b).alloc c).heap.size = w.heap.size + 1 + 1 + 1 := by rw [World.size_alloc, z2]
  have z4 : ((((w.alloc a).alloc b).alloc c).alloc d).heap.size = w.heap.size + 1 + 1 + 1 + 1 := by rw [World.size_alloc, z3]
  rw [z1] at n1
  rw [z2] at n2
  rw [z3] at n3
  rw [z4] at n4
  refine ⟨?_, ?_, ?_, ?_, n4⟩
  · exact (((Below.heap_alloc _ _ _ (by omega)).trans (Below.heap_alloc _ _ _ (by omega))).trans (Below.heap_alloc _ _ _ (by omega))).trans ((Below.heap_alloc _ _ _ (by omega)).trans n0)
  · exact ((Below.heap_alloc _ _ _ (by omega)).trans (Below.heap_alloc _ _ _ (by omega))).trans ((Below.heap_alloc _ _ _ (by omega)).trans n1)
  · exact ((Below.heap_alloc _ _ _ (by omega)).trans (Below.heap_alloc _ _ _ (by omega))).trans n2
  · exact (Below.heap_alloc _ _ _ (by omega)).trans n3
theorem cell_blk {W : World} {g : Nat} {v : Value} {t : TypeId} (h : W.heap[g]? = some (.cells #[v] t)) : W.cell? ⟨g, 0, none⟩ = some v ∧ W.frozen? ⟨g, 0, none⟩ = false := by
  constructor
  · simp [World.cell?, h]
  · simp [World.frozen?, h]
theorem inv_holds (w : World) (s : Nat) (hs : s = w.heap.size) : Holds2 (s + 4) (s + 5) (Inv w s) := by
  rintro pre A C row ⟨lv, l, h1, h2, h3, h4, h5, h6⟩ hg hr
  have hz := hg.size
  refine ⟨lv, l, h1, h2.keep fun k hk => hg.block k (by omega) fun e => ?_, h3.of_block fun k hk => hg.block k (h3.lt k hk).2 fun e => ?_, h4.grown hg (by omega) fun k hk => ?_, by omega, h6⟩
  · rcases hr k e.symm with h | ⟨h, -⟩ <;> omega
  · have hb := (h3.lt k hk).1
    rcases hr k e.symm with h | ⟨h, o, ho, hc⟩
    · omega
    · obtain ⟨o', ho', hc'⟩ := own_block h3 hk
      rw [ho] at ho'; cases ho'; rw [hc] at hc'; cases hc'
  · rcases hr k hk with h | ⟨h, -⟩ <;> omega
theorem bad_holds (w : World) (s : Nat) (hs : s = w.heap.size) : Holds2 (s + 4) (s + 5) (Bad w s) := by
  rintro pre A C row ⟨lv, l, k, h1, h2, h3, h4, h5⟩ hg hr
  have hz := hg.size
  refine ⟨lv, l, k, h1, h2, h3.keep fun k hk => hg.block k (by omega) fun e => ?_, h4.grown hg (by omega) fun k hk => ?_, by omega⟩
  · rcases hr k e.symm with h | ⟨h, -⟩ <;> omega
  · rcases hr k hk with h | ⟨h, -⟩ <;> omega
theorem elemR : RowsK.Elem Tryd.prog 22 28 encR.k 48 := RowsK.Elem.of (z := .agg #[.string ⟨#[]⟩, .string ⟨#[]⟩, .string ⟨#[]⟩]) Tryd.underlying22 (by kernel_rfl) rfl (by decide)
theorem putw {W : World} {g j q : Nat} {v u : Value} (h : W.cell? ⟨g, j, none⟩ = some v) (hne : g ≠ q) : (W.setCell ⟨q, 0, none⟩ u).cell? ⟨g, j, none⟩ = some v :=
  (World.cell?_setCell_other _ _ _ _ (fun e => by have := congrArg Addr.block e; simp at this; omega)).trans h
theorem put1_3 {W : World} {s : Nat} {v a : Value} (h : W.cell? ⟨s + 1 + 1 + 1, 0, none⟩ = some v) : (W.setCell ⟨s, 0, none⟩ a).drew.cell? ⟨s + 1 + 1 + 1, 0, none⟩ = some v :=
  (World.cell?_setCell_other _ _ _ _ (fun e => by have := congrArg Addr.block e; simp at this; try omega)).trans h
theorem put2_3 {W : World} {s : Nat} {v a b : Value} (h : W.cell? ⟨s + 1 + 1 + 1, 0, none⟩ = some v) : ((W.setCell ⟨s, 0, none⟩ a).setCell ⟨s + 1, 0, none⟩ b).drew.cell? ⟨s + 1 + 1 + 1, 0, none⟩ = some v :=
  (World.cell?_setCell_other _ _ _ _ (fun e => by have := congrArg Addr.block e; simp at this; try omega)).trans (put1_3 (a := a) h)
theorem put3_3 {W : World} {s : Nat} {v a b c : Value} (h : W.cell? ⟨s + 1 + 1 + 1, 0, none⟩ = some v) : (((W.setCell ⟨s, 0, none⟩ a).setCell ⟨s + 1, 0, none⟩ b).setCell ⟨s + 1 + 1, 0, none⟩ c).drew.cell? ⟨s + 1 + 1 + 1, 0, none⟩ = some v :=
  (World.cell?_setCell_other _ _ _ _ (fun e => by have := congrArg Addr.block e; simp at this; try omega)).trans (put2_3 (a := a) (b := b) h)
/-- A round that has found a fault. -/
theorem bad_end {w W W1 : World} {s B : Nat} {pre : List Ln} {l : List RT} {k : Int} {r0 r1 r2 lv : Value} {a : Act} {I : List Ln → World → Prop} (hV : PV W1 s r0 r1 r2 lv) (hB : Below s w W1) (hz : s + 5 ≤ W1.heap.size) (hK : KeepsFrom B W W1) (hr : runP [] (bytesLn pre) = (k, l)) (hk : k ≠ 0) (h1 : s ≤ w.heap.size) (h2 : s + 5 ≤ B) :
    bodyEnds B (s + 4) I (Bad w s) pre W .ret a (((W1.setCell ⟨s, 0, none⟩ (.slice none 0 0)).setCell ⟨s + 1, 0, none⟩ (.int .i64 (l.length : Nat))).setCell ⟨s + 1 + 1, 0, none⟩ (errV k)).drew := by
  have hs : ∀ q, s + 3 ≤ q → ((((W1.setCell ⟨s, 0, none⟩ (.slice none 0 0)).setCell ⟨s + 1, 0, none⟩ (.int .i64 (l.length : Nat))).setCell ⟨s + 1 + 1, 0, none⟩ (errV k)).drew).heap[q]? = W1.heap[q]? := fun q hq => by
    show ((((W1.setCell ⟨s, 0, none⟩ (.slice none 0 0)).setCell ⟨s + 1, 0, none⟩ (.int .i64 (l.length : Nat))).setCell ⟨s + 1 + 1, 0, none⟩ (errV k))).heap[q]? = _
    rw [Below.heap_setCell _ _ _ _ (by simp only; omega), Below.heap_setCell _ _ _ _ (by simp only; omega), Below.heap_setCell _ _ _ _ (by simp only; omega)]
  have hsz : (((W1.setCell ⟨s, 0, none⟩ (.slice none 0 0)).setCell ⟨s + 1, 0, none⟩ (.int .i64 (l.length : Nat))).setCell ⟨s + 1 + 1, 0, none⟩ (errV k)).drew.heap.size = W1.heap.size := by
    show (((W1.setCell ⟨s, 0, none⟩ (.slice none 0 0)).setCell ⟨s + 1, 0, none⟩ (.int .i64 (l.length : Nat))).setCell ⟨s + 1 + 1, 0, none⟩ (errV k)).heap.size = _
    simp
  refine ⟨⟨by rw [hsz]; exact hK.size, fun q o hq h h' => (hs q (by omega)).trans (hK.same q o hq h h')⟩, lv, l, k, hr, hk, ?_, ?_, by rw [hsz]; exact hz⟩
  · exact ⟨cell3_0 hV.c0, cell3_1 hV.c1, cell3_2 hV.c2, put3_3 hV.c3, by show World.frozen? _ _ = _; simp; exact hV.f0, by show World.frozen? _ _ = _; simp; exact hV.f1, by show World.frozen? _ _ = _; simp; exact hV.f2, by show World.frozen? _ _ = _; simp; exact hV.f3⟩
  · exact (((hB.setCell (by simp) _).setCell (by simp) _).setCell (by simp only; omega) _).drew
theorem route_q (v : Value) (l : List RT) (w : World) (hl : At encR w v l) (i : Nat) (hi : i < l.length) (r : RT) (hr : l[i] = r) :
    Calls Tryd.prog 14 #[v, .int .i64 i] w fun e w' => ((routeE l i r = 0 ∧ e = .returned .nilIface) ∨ ∃ k, (k = 2 ∨ k = 7) ∧ routeE l i r = k ∧ e = .returned (.iface 46 (.int .i64 k))) ∧ Below w.heap.size w w' := by
  subst hr
  exact route_ways v l w hl i hi
/-- The round has its route in the row. -/
structure Good (w : World) (s B : Nat) (W X : World) (lv : Value) (l : List RT) : Prop where
  pv : PV X s (.slice none 0 0) (.int .i64 0) .nilIface lv
  bel : Below s w X
  sz : s + 5 ≤ X.heap.size
  own : RowsK.Own encR X (s + 5) 28 lv l
  blk : X.heap[s + 4]? = W.heap[s + 4]?
  keep : KeepsFrom B W X
theorem Good.step {w W X X' : World} {s B : Nat} {lv : Value} {l : List RT} (h : Good w s B W X lv l) (hs : s ≤ w.heap.size) (hB : Below X.heap.size X X') : Good w s B W X' lv l := by
  have hz := h.sz
  refine ⟨h.pv.keep fun k hk => hB.block k (by omega), h.bel.trans (hB.mono (by omega)), by have := hB.size; omega, h.own.of_block fun k hk => hB.block k (h.own.lt k hk).2, (hB.block _ (by omega)).trans h.blk, by have h1 := h.keep.size; have h2 := hB.size; omega, fun k o hk ho hc => ?_⟩
  have hk2 := h.keep.same k o hk ho hc
  exact (hB.block k (Array.getElem?_eq_some_iff.1 hk2).1).trans hk2
theorem good_of {w W W1 w4 : World} {s B : Nat} {lv0 v4 : Value} {rl l4 : List RT} {o : Obj} (hV : PV W1 s (.slice none 0 0) (.int .i64 0) .nilIface lv0) (hB : Below s w W1) (hz : s + 5 ≤ W1.heap.size) (hK : KeepsFrom B W W1) (hb : W1.heap[s + 4]? = W.heap[s + 4]?) (ho : RowsK.Own encR W1 (s + 5) 28 lv0 rl) (hg : (W1.alloc o).drew.grownBy w4 lv0.ownBlock)
    (hO : RowsK.Own encR w4 (s + 5) 28 v4 l4) (hBs : s + 5 ≤ B) : Good w s B W (w4.setCell ⟨s + 1 + 1 + 1, 0, none⟩ v4) v4 l4 := by
  have hne : ∀ q, lv0.ownBlock = some q → s + 5 ≤ q := fun q hq => (ho.lt q hq).1
  have hblk : ∀ q, q < W1.heap.size → lv0.ownBlock ≠ some q → w4.heap[q]? = W1.heap[q]? := fun q hq h => (hg.block q (by show q < (W1.alloc o).heap.size; simp; omega) (fun e => h e.symm)).trans (Below.heap_alloc _ _ _ hq)
  have hz4 : W1.heap.size ≤ w4.heap.size := by have := hg.size; have e : (W1.alloc o).drew.heap.size = W1.heap.size + 1 := World.size_alloc ..; omega
  have hV4 : PV w4 s (.slice none 0 0) (.int .i64 0) .nilIface lv0 := hV.keep fun k hk => hblk k (by omega) fun e => by have := hne k e; omega
  have hB4 : Below s w w4 := (hB.alloc (by omega) o).drew.grown hg (by show s ≤ (W1.alloc o).heap.size; simp; omega) fun k hk => by have := hne k hk; omega
  have hs : ∀ q, q ≠ s + 1 + 1 + 1 → (w4.setCell ⟨s + 1 + 1 + 1, 0, none⟩ v4).heap[q]? = w4.heap[q]? := fun q hq => Below.heap_setCell _ _ _ _ (by simp only; omega)
  have hsz : (w4.setCell ⟨s + 1 + 1 + 1, 0, none⟩ v4).heap.size = w4.heap.size := by simp
  refine ⟨⟨?_, ?_, ?_, ?_, ?_, ?_, ?_, ?_⟩, hB4.setCell (by simp only; omega) _, by rw [hsz]; omega, hO.setCell _ _ fun e => by have := (hO.lt _ e).1; simp only at this; omega, ?_, by rw [hsz]; have := hK.size; omega, fun k o' hk ho' hc => ?_⟩
  · exact (World.cell?_of_block (w := w4) (hs s (by omega))).trans hV4.c0
  · exact (World.cell?_of_block (w := w4) (hs (s + 1) (by omega))).trans hV4.c1
  · exact (World.cell?_of_block (w := w4) (hs (s + 1 + 1) (by omega))).trans hV4.c2
  · exact World.cell?_setCell_same _ _ _ hV4.c3
  · exact (World.frozen?_of_block (w := w4) (hs s (by omega))).trans hV4.f0
  · exact (World.frozen?_of_block (w := w4) (hs (s + 1) (by omega))).trans hV4.f1
  · exact (World.frozen?_of_block (w := w4) (hs (s + 1 + 1) (by omega))).trans hV4.f2
  · show World.frozen? _ _ = _; simp; exact hV4.f3
  · exact ((hs _ (by omega)).trans (hblk _ (by omega) fun e => by have := hne _ e; omega)).trans hb
  · have h1 := hK.same k o' hk ho' hc
    refine (hs k (by omega)).trans ((hblk k (Array.getElem?_eq_some_iff.1 h1).1 fun e => ?_).trans h1)
    obtain ⟨o2, ho2, hc2⟩ := own_block ho e
    rw [h1] at ho2; cases ho2; rw [hc] at hc2; cases hc2
theorem star_world {w W W1 W0 : World} {s : Nat} {lv : Value} {rl : List RT} {a b c : ByteArray} (h5 : s + 5 ≤ W.heap.size) (hw : W.heap.size < W1.heap.size) (hV : PV W1 s (.slice none 0 0) (.int .i64 0) .nilIface lv) (hB : Below s w W1) (hz : s + 5 ≤ W1.heap.size) (hK : KeepsFrom W0.heap.size W W1) (hb : W1.heap[s + 4]? = W.heap[s + 4]?) (ho : RowsK.Own encR W1 (s + 5) 28 lv rl)
    (hl : ∀ q, lv.ownBlock = some q → q < W.heap.size) (d0 : W1.cell? ⟨W.heap.size, 0, none⟩ = some (.string a)) (d1 : W1.cell? ⟨W.heap.size, 1, none⟩ = some (.string b)) (d2 : W1.cell? ⟨W.heap.size, 2, none⟩ = some (.string c)) :
    PV (W1.setCell ⟨W.heap.size, 0, none⟩ (.string ⟨#[]⟩)) s (.slice none 0 0) (.int .i64 0) .nilIface lv ∧ Below s w (W1.setCell ⟨W.heap.size, 0, none⟩ (.string ⟨#[]⟩)) ∧ s + 5 ≤ (W1.setCell ⟨W.heap.size, 0, none⟩ (.string ⟨#[]⟩)).heap.size ∧ KeepsFrom W0.heap.size W (W1.setCell ⟨W.heap.size, 0, none⟩ (.string ⟨#[]⟩)) ∧
      (W1.setCell ⟨W.heap.size, 0, none⟩ (.string ⟨#[]⟩)).heap[s + 4]? = W.heap[s + 4]? ∧ RowsK.Own encR (W1.setCell ⟨W.heap.size, 0, none⟩ (.string ⟨#[]⟩)) (s + 5) 28 lv rl ∧ (W1.setCell ⟨W.heap.size, 0, none⟩ (.string ⟨#[]⟩)).cell? ⟨W.heap.size, 0, none⟩ = some (.string ⟨#[]⟩) ∧
      (W1.setCell ⟨W.heap.size, 0, none⟩ (.string ⟨#[]⟩)).cell? ⟨W.heap.size, 1, none⟩ = some (.string b) ∧ (W1.setCell ⟨W.heap.size, 0, none⟩ (.string ⟨#[]⟩)).cell? ⟨W.heap.size, 2, none⟩ = some (.string c) := by
  have hs : ∀ q, q ≠ W.heap.size → (W1.setCell ⟨W.heap.size, 0, none⟩ (.string ⟨#[]⟩)).heap[q]? = W1.heap[q]? := fun q hq => Below.heap_setCell _ _ _ _ (by simp only; omega)
  refine ⟨hV.keep fun k hk => hs k (by omega), hB.setCell (by simp only; omega) _, by simp; exact hz, ⟨by simp; omega, fun k o hk ho' hc => ?_⟩, (hs _ (by omega)).trans hb, ho.setCell _ _ fun e => by have := hl _ e; simp only at this; omega, World.cell?_setCell_same _ _ _ d0, ?_, ?_⟩
  · have := (Array.getElem?_eq_some_iff.1 ho').1
    exact (hs k (by omega)).trans (hK.same k o hk ho' hc)
  · exact (World.cell?_setCell_other _ _ _ _ (by simp)).trans d1
  · exact (World.cell?_setCell_other _ _ _ _ (by simp)).trans d2
theorem good_normal {w W X : World} {s B : Nat} {pre : List Ln} {lv : Value} {l : List RT} {a : Act} (h : Good w s B W X lv l) (hr : runP [] (bytesLn pre) = (0, l)) (hl : l.length ≤ 20) :
    bodyEnds B (s + 4) (Inv w s) (Bad w s) pre W .normal a X := ⟨h.keep, h.blk, lv, l, hr, h.pv, h.own, h.bel, h.sz, hl⟩
set_option maxRecDepth 100000 in
set_option maxHeartbeats 40000000 in
theorem parse_any (text : ByteArray) (ht : text.size < 4294967281) (w : World) (m : Int) (hm : w.cell? ⟨1, 0, none⟩ = some (.int .i64 m)) :
    Calls Tryd.prog 5 #[.string text] w fun e w' => ∃ v l k er, e = .returned (.tuple #[v, .int .i64 k, errV er]) ∧ (l, k, er) = parseP text.data.toList ∧ At encR w' v l ∧ Below w.heap.size w w' := by
  have HLN := Lib.hid (fun W => (lines_any text W).mono (R' := fun e w' => e = .returned (.func (.func 22) #[] #[.pointer (some ⟨W.heap.size, 0, none⟩)]) ∧ w' = W.alloc (.cells #[.string text] 9)) fun _ _ h => h)
  have HMX := Lib.hid hm
  have hm1 := block_lt_of_cell hm
  clear hm
  refine (callsIn_wide (n := 9)).1 ?_
  refine callsIn_of_wp_marks Tryd.func5 rfl trivial ?_ rfl
  simp only [Tryd.ntmps5, List.size_toArray, List.length_cons, List.length_nil, Nat.reduceAdd, Nat.reduceSub, Array.replicate_succ, Array.replicate_zero, List.push_toArray, List.append_toArray, List.nil_append, List.cons_append]
  refine (wpIn_wide (n := 9)).2 ?_
  go_wp2_with (first
    | (go_at_call 11; (with_reducible refine (HLN.out _).mono ?_); rintro e w2 ⟨rfl, rfl⟩)
    | fail)
  obtain ⟨W0, hW0⟩ : ∃ W0, (((((w.alloc (.cells #[.slice none 0 0] 22)).alloc (.cells #[.int .i64 0] 3)).alloc (.cells #[.nilIface] 24)).alloc (.cells #[.slice none 0 0] 22)).alloc (.cells #[.string text] 9)) = W0 := ⟨_, rfl⟩
  have hB0 : Below w.heap.size w W0 := by
    rw [← hW0]
    exact (((((Below.refl _ _).alloc (Nat.le_refl _) _).alloc (by simp) _).alloc (by simp; omega) _).alloc (by simp; omega) _).alloc (by simp; omega) _
  have hz0 : W0.heap.size = w.heap.size + 5 := by rw [← hW0]; simp
  obtain ⟨b0, b1, b2, b3, b4⟩ := five_blocks w (.cells #[.slice none 0 0] 22) (.cells #[.int .i64 0] 3) (.cells #[.nilIface] 24) (.cells #[.slice none 0 0] 22) (.cells #[.string text] 9)
  rw [hW0] at b0 b1 b2 b3 b4
  have hPV : PV W0 w.heap.size (.slice none 0 0) (.int .i64 0) .nilIface (.slice none 0 0) := ⟨(cell_blk b0).1, (cell_blk b1).1, (cell_blk b2).1, (cell_blk b3).1, (cell_blk b0).2, (cell_blk b1).2, (cell_blk b2).2, (cell_blk b3).2⟩
  have hcb := (cell_blk b4).1
  have hfb := (cell_blk b4).2
  clear b0 b1 b2 b3 b4
  rw [hW0]
  clear hW0
  obtain ⟨s, hs⟩ : ∃ s, w.heap.size = s := ⟨_, rfl⟩
  rw [hs] at hB0 hz0 hPV hcb hfb ⊢
  have h0 : Inv w s [] W0 := ⟨_, [], rfl, hPV, RowsK.Own.nil _ _ _ _, hB0, by omega, by simp⟩
  refine (wpIn_wide (n := 9)).1 ?_
  refine wpIn_range_cell (n := 9) rfl (by decide) (gf := 22) (lb := #[.pointer (some ⟨s + 1 + 1 + 1 + 1, 0, none⟩)]) rfl trivial (enters_of Tryd.func22 (by kernel_rfl) rfl) (lines_seq text ht (9 - 1) (by decide) (s + 4) W0 hcb hfb) (Below.refl _ _) (by omega)
    (Inv w s) (Bad w s) (by rw [hz0]; exact inv_holds w s hs.symm) (by rw [hz0]; exact bad_holds w s hs.symm) h0 (fun x => actR s text x.1) ?assign ?body ?done ?stop
  case assign =>
    intro l x W K hK
    gi_wp2
    exact hK
  case body =>
    rintro l pre x W ⟨lv, rl, h1, h2, h3, h4, h5, h6⟩
    have hrun : runP [] (bytesLn (pre ++ [x])) = stepB rl (wordsOf (bodyB x.1)) (endB x.1) := by
      rw [show bytesLn (pre ++ [x]) = bytesLn pre ++ [x.1.data.toList] from by simp [bytesLn], run_snoc _ _ _ (by rw [h1]), h1, stepP_eq]
    have HRUN := Lib.hid hrun
    have HCS := Lib.hid (cutsuffix_any x.1 (by have := x.2; omega))
    have hmW : W.cell? ⟨1, 0, none⟩ = some (.int .i64 m) := (h4.cell (p := ⟨1, 0, none⟩) (by rw [← hs]; exact hm1)).trans HMX.out
    have HSP := Lib.hid (split_words (bodyB x.1) W m hmW (by have h1 := body_le x.1; have h2 := x.2; omega))
    obtain ⟨ws, hws⟩ : ∃ ws, wordsOf (bodyB x.1) = ws := ⟨_, rfl⟩
    obtain ⟨en, hen⟩ : ∃ en, endB x.1 = en := ⟨_, rfl⟩
    obtain ⟨bo, hbo⟩ : ∃ bo, bodyB x.1 = bo := ⟨_, rfl⟩
    rw [hws] at HSP HRUN
    rw [hen] at HCS HRUN
    rw [hbo] at HCS HSP
    clear hrun hws hen hbo
    have hnn : 1 ≤ 9 - 1 - 1 := by decide
    obtain ⟨la, lc, hlv, -⟩ := h3.slice
    subst hlv
    obtain ⟨W1, hW1⟩ : ∃ W1, W.alloc (.cells (ws.map Value.string).toArray 9) = W1 := ⟨_, rfl⟩
    have hV1 : PV W1 s (.slice none 0 0) (.int .i64 0) .nilIface (.slice la rl.length lc) := by rw [← hW1]; exact h2.keep fun k hk => Below.heap_alloc _ _ _ (by omega)
    have hB1 : Below s w W1 := by rw [← hW1]; exact h4.alloc (by omega) _
    have hz1 : s + 5 ≤ W1.heap.size := by rw [← hW1]; simp; omega
    have HKF : Hid (KeepsFrom W0.heap.size W W1) := by show KeepsFrom _ _ _; rw [← hW1]; exact (KeepsOthers.alloc _ _).from _
    have HBL : Hid (W1.heap[s + 4]? = W.heap[s + 4]?) := by show _ = _; rw [← hW1]; exact Below.heap_alloc _ _ _ (by omega)
    have HO1 : Hid (RowsK.Own encR W1 (s + 5) 28 (.slice la rl.length lc) rl) := by show RowsK.Own _ _ _ _ _ _; rw [← hW1]; exact h3.alloc _
    have hWW : W.heap.size < W1.heap.size := by rw [← hW1]; simp
    rw [hW1] at HSP
    have k0 := hV1.c0
    have k1 := hV1.c1
    have k2 := hV1.c2
    have k3 := hV1.c3
    have j0 := hV1.f0
    have j1 := hV1.f1
    have j2 := hV1.f2
    have HV1 := Lib.hid hV1
    have HB1 := Lib.hid hB1
    have HW1 := Lib.hid hW1
    have H3 := Lib.hid h3
    have H1 := Lib.hid h1
    clear hW1 h1 h2 h3 h4 hV1 hB1 hmW
    unfold actR
    by_cases hA : en = false ∨ ws.length ≠ 3
    · have HR2 : Hid (runP [] (bytesLn (pre ++ [x])) = (2, rl)) := HRUN.out.trans (step_short hA)
      clear HRUN
      cases en with
      | false =>
        clear hA
        gi_wp2_with (first
          | (refine ⟨trivial, ?_⟩; gi_at_call 12; refine (CallsIn.inRound l (callsIn_wide.2 (HCS.out _))).mono ?_; rintro e w1 ⟨rfl, rfl⟩)
          | (refine ⟨trivial, ?_⟩; gi_at_call 13; refine (CallsIn.inRound l (callsIn_wide.2 HSP.out)).mono ?_; rintro e w1 ⟨rfl, rfl⟩))
        refine wpIn_region_held (fun W' => W'.cell? ⟨s + 1 + 1 + 1, 0, none⟩ = some (.slice la rl.length lc)) (by kernel_rfl) (by kernel_rfl) k3 (fun hS => ?_)
        refine wpAnyH_take (i := 0) (v := ?_) rfl (by kernel_rfl) (by kernel_rfl) (by kernel_rfl) (fun _ _ _ h => h) (Or.inl ⟨by rfl, ?_⟩) (by assumption) ?_; rotate_left
        · intro w' hSw; (try dsimp only at hSw); go_simp; (try (with_reducible rfl)); done
        refine wpAnyH_take (i := 1) (v := ?_) rfl (by kernel_rfl) (by kernel_rfl) (by kernel_rfl) (fun _ _ _ h => h) (Or.inl ⟨by rfl, ?_⟩) (by assumption) ?_; rotate_left
        · intro w' hSw; (try dsimp only at hSw); go_simp; (try (with_reducible rfl)); done
        refine wpAnyH_take (i := 2) (v := ?_) rfl (by kernel_rfl) (by kernel_rfl) (by kernel_rfl) (fun _ _ _ h => h) (Or.inl ⟨by rfl, ?_⟩) (by assumption) ?_; rotate_left
        · intro w' hSw; (try dsimp only at hSw); go_simp; (try (with_reducible rfl)); done
        refine wpAnyH_ready (rs := [3]) (by kernel_rfl) (by simp) ?_
        refine AllReadyH.cons rfl (fun K hK => ?_) AllReadyH.nil
        go_simp
        refine hK.out _ _ (put1_3 k3) (fun hS => ?_)
        clear hK K
        refine wpAnyH_ready (rs := [4]) (by kernel_rfl) (by simp) ?_
        refine AllReadyH.cons rfl (fun K hK => ?_) AllReadyH.nil
        go_simp
        refine hK.out _ _ (put2_3 k3) (fun hS => ?_)
        clear hK K
        refine wpAnyH_ready (rs := [5]) (by kernel_rfl) (by simp) ?_
        refine AllReadyH.cons rfl (fun K hK => ?_) AllReadyH.nil
        go_simp
        refine hK.out _ _ (put3_3 k3) (fun hS => wpAnyH_done (by kernel_rfl) (Only.normal ?_) _)
        clear hK K
        gi_wp2
        exact bad_end HV1.out HB1.out hz1 HKF.out HR2.out (by decide) (by omega) (by omega)
      | true =>
        have hw3 : ((ws.length : Int) != 3) = true := by rw [bne_iff_ne]; rcases hA with h | h; cases h; omega
        have hw4 : ((ws.length : Int) == 3) = false := by rw [beq_eq_false_iff_ne]; rcases hA with h | h; cases h; omega
        clear hA
        gi_wp2_with (first
          | (refine ⟨trivial, ?_⟩; gi_at_call 12; refine (CallsIn.inRound l (callsIn_wide.2 (HCS.out _))).mono ?_; rintro e w1 ⟨rfl, rfl⟩)
          | (refine ⟨trivial, ?_⟩; gi_at_call 13; refine (CallsIn.inRound l (callsIn_wide.2 HSP.out)).mono ?_; rintro e w1 ⟨rfl, rfl⟩))
        refine wpIn_region_held (fun W' => W'.cell? ⟨s + 1 + 1 + 1, 0, none⟩ = some (.slice la rl.length lc)) (by kernel_rfl) (by kernel_rfl) k3 (fun hS => ?_)
        refine wpAnyH_take (i := 0) (v := ?_) rfl (by kernel_rfl) (by kernel_rfl) (by kernel_rfl) (fun _ _ _ h => h) (Or.inl ⟨by rfl, ?_⟩) (by assumption) ?_; rotate_left
        · intro w' hSw; (try dsimp only at hSw); go_simp; (try (with_reducible rfl)); done
        refine wpAnyH_take (i := 1) (v := ?_) rfl (by kernel_rfl) (by kernel_rfl) (by kernel_rfl) (fun _ _ _ h => h) (Or.inl ⟨by rfl, ?_⟩) (by assumption) ?_; rotate_left
        · intro w' hSw; (try dsimp only at hSw); go_simp; (try (with_reducible rfl)); done
        refine wpAnyH_take (i := 2) (v := ?_) rfl (by kernel_rfl) (by kernel_rfl) (by kernel_rfl) (fun _ _ _ h => h) (Or.inl ⟨by rfl, ?_⟩) (by assumption) ?_; rotate_left
        · intro w' hSw; (try dsimp only at hSw); go_simp; (try (with_reducible rfl)); done
        refine wpAnyH_ready (rs := [3]) (by kernel_rfl) (by simp) ?_
        refine AllReadyH.cons rfl (fun K hK => ?_) AllReadyH.nil
        go_simp
        refine hK.out _ _ (put1_3 k3) (fun hS => ?_)
        clear hK K
        refine wpAnyH_ready (rs := [4]) (by kernel_rfl) (by simp) ?_
        refine AllReadyH.cons rfl (fun K hK => ?_) AllReadyH.nil
        go_simp
        refine hK.out _ _ (put2_3 k3) (fun hS => ?_)
        clear hK K
        refine wpAnyH_ready (rs := [5]) (by kernel_rfl) (by simp) ?_
        refine AllReadyH.cons rfl (fun K hK => ?_) AllReadyH.nil
        go_simp
        refine hK.out _ _ (put3_3 k3) (fun hS => wpAnyH_done (by kernel_rfl) (Only.normal ?_) _)
        clear hK K
        gi_wp2
        exact bad_end HV1.out HB1.out hz1 HKF.out HR2.out (by decide) (by omega) (by omega)
    · have hen : en = true := by cases en; exact absurd (Or.inl rfl) hA; rfl
      subst hen
      have hw3 : ws.length = 3 := by by_cases h : ws.length = 3; exact h; exact absurd (Or.inr h) hA
      obtain ⟨a, b, c, rfl⟩ : ∃ a b c, ws = [a, b, c] := by
        match ws, hw3 with
        | [a, b, c], _ => exact ⟨a, b, c, rfl⟩
      clear hA hw3
      by_cases hfull : rl.length = 20
      · have HR2 : Hid (runP [] (bytesLn (pre ++ [x])) = (4, rl)) := HRUN.out.trans (step_full hfull)
        have hf2 : ((rl.length : Int) == 20) = true := by rw [beq_iff_eq]; omega
        clear HRUN hfull
        gi_wp2_with (first
          | (refine ⟨trivial, ?_⟩; gi_at_call 12; refine (CallsIn.inRound l (callsIn_wide.2 (HCS.out _))).mono ?_; rintro e w1 ⟨rfl, rfl⟩)
          | (refine ⟨trivial, ?_⟩; gi_at_call 13; refine (CallsIn.inRound l (callsIn_wide.2 HSP.out)).mono ?_; rintro e w1 ⟨rfl, rfl⟩))
        refine wpIn_region_held (fun W' => W'.cell? ⟨s + 1 + 1 + 1, 0, none⟩ = some (.slice la rl.length lc)) (by kernel_rfl) (by kernel_rfl) k3 (fun hS => ?_)
        refine wpAnyH_take (i := 0) (v := ?_) rfl (by kernel_rfl) (by kernel_rfl) (by kernel_rfl) (fun _ _ _ h => h) (Or.inl ⟨by rfl, ?_⟩) (by assumption) ?_; rotate_left
        · intro w' hSw; (try dsimp only at hSw); go_simp; (try (with_reducible rfl)); done
        refine wpAnyH_take (i := 1) (v := ?_) rfl (by kernel_rfl) (by kernel_rfl) (by kernel_rfl) (fun _ _ _ h => h) (Or.inl ⟨by rfl, ?_⟩) (by assumption) ?_; rotate_left
        · intro w' hSw; (try dsimp only at hSw); go_simp; (try (with_reducible rfl)); done
        refine wpAnyH_take (i := 2) (v := ?_) rfl (by kernel_rfl) (by kernel_rfl) (by kernel_rfl) (fun _ _ _ h => h) (Or.inl ⟨by rfl, ?_⟩) (by assumption) ?_; rotate_left
        · intro w' hSw; (try dsimp only at hSw); go_simp; (try (with_reducible rfl)); done
        refine wpAnyH_ready (rs := [3]) (by kernel_rfl) (by simp) ?_
        refine AllReadyH.cons rfl (fun K hK => ?_) AllReadyH.nil
        go_simp
        refine hK.out _ _ (put1_3 k3) (fun hS => ?_)
        clear hK K
        refine wpAnyH_ready (rs := [4]) (by kernel_rfl) (by simp) ?_
        refine AllReadyH.cons rfl (fun K hK => ?_) AllReadyH.nil
        go_simp
        refine hK.out _ _ (put2_3 k3) (fun hS => ?_)
        clear hK K
        refine wpAnyH_ready (rs := [5]) (by kernel_rfl) (by simp) ?_
        refine AllReadyH.cons rfl (fun K hK => ?_) AllReadyH.nil
        go_simp
        refine hK.out _ _ (put3_3 k3) (fun hS => wpAnyH_done (by kernel_rfl) (Only.normal ?_) _)
        clear hK K
        gi_wp2
        exact bad_end HV1.out HB1.out hz1 HKF.out HR2.out (by decide) (by omega) (by omega)
      · have hf2 : ((rl.length : Int) == 20) = false := by rw [beq_eq_false_iff_ne]; omega
        have d0 : W1.cell? ⟨W.heap.size, 0, none⟩ = some (.string a) := by rw [← HW1.out, World.cell?_alloc_new]; rfl
        have d1 : W1.cell? ⟨W.heap.size, 1, none⟩ = some (.string b) := by rw [← HW1.out, World.cell?_alloc_new]; rfl
        have d2 : W1.cell? ⟨W.heap.size, 2, none⟩ = some (.string c) := by rw [← HW1.out, World.cell?_alloc_new]; rfl
        by_cases ha : a = ⟨#[]⟩
        · have HR2 : Hid (runP [] (bytesLn (pre ++ [x])) = (2, rl)) := HRUN.out.trans (step_none hfull (by rw [ha]))
          subst ha
          clear HRUN hfull
          gi_wp2_with (first
            | (refine ⟨trivial, ?_⟩; gi_at_call 12; refine (CallsIn.inRound l (callsIn_wide.2 (HCS.out _))).mono ?_; rintro e w1 ⟨rfl, rfl⟩)
            | (refine ⟨trivial, ?_⟩; gi_at_call 13; refine (CallsIn.inRound l (callsIn_wide.2 HSP.out)).mono ?_; rintro e w1 ⟨rfl, rfl⟩))
          refine wpIn_region_held (fun W' => W'.cell? ⟨s + 1 + 1 + 1, 0, none⟩ = some (.slice la rl.length lc)) (by kernel_rfl) (by kernel_rfl) k3 (fun hS => ?_)
          refine wpAnyH_take (i := 0) (v := ?_) rfl (by kernel_rfl) (by kernel_rfl) (by kernel_rfl) (fun _ _ _ h => h) (Or.inl ⟨by rfl, ?_⟩) (by assumption) ?_; rotate_left
          · intro w' hSw; (try dsimp only at hSw); go_simp; (try (with_reducible rfl)); done
          refine wpAnyH_take (i := 1) (v := ?_) rfl (by kernel_rfl) (by kernel_rfl) (by kernel_rfl) (fun _ _ _ h => h) (Or.inl ⟨by rfl, ?_⟩) (by assumption) ?_; rotate_left
          · intro w' hSw; (try dsimp only at hSw); go_simp; (try (with_reducible rfl)); done
          refine wpAnyH_take (i := 2) (v := ?_) rfl (by kernel_rfl) (by kernel_rfl) (by kernel_rfl) (fun _ _ _ h => h) (Or.inl ⟨by rfl, ?_⟩) (by assumption) ?_; rotate_left
          · intro w' hSw; (try dsimp only at hSw); go_simp; (try (with_reducible rfl)); done
          refine wpAnyH_ready (rs := [3]) (by kernel_rfl) (by simp) ?_
          refine AllReadyH.cons rfl (fun K hK => ?_) AllReadyH.nil
          go_simp
          refine hK.out _ _ (put1_3 k3) (fun hS => ?_)
          clear hK K
          refine wpAnyH_ready (rs := [4]) (by kernel_rfl) (by simp) ?_
          refine AllReadyH.cons rfl (fun K hK => ?_) AllReadyH.nil
          go_simp
          refine hK.out _ _ (put2_3 k3) (fun hS => ?_)
          clear hK K
          refine wpAnyH_ready (rs := [5]) (by kernel_rfl) (by simp) ?_
          refine AllReadyH.cons rfl (fun K hK => ?_) AllReadyH.nil
          go_simp
          refine hK.out _ _ (put3_3 k3) (fun hS => wpAnyH_done (by kernel_rfl) (Only.normal ?_) _)
          clear hK K
          gi_wp2
          exact bad_end HV1.out HB1.out hz1 HKF.out HR2.out (by decide) (by omega) (by omega)
        · have ha1 : a.data.toList ≠ [] := fun e => ha (by cases a; simp only at e; exact congrArg ByteArray.mk (Array.toList_inj.1 e))
          have ha2 : (a.toList == ([] : List UInt8)) = false := by rw [beq_eq_false_iff_ne, ByteArray.toList_eq]; exact ha1
          have ha3 : a.toList ≠ [] := by rw [ByteArray.toList_eq]; exact ha1
          have HR2 := Lib.hid (HRUN.out.trans (step_more hfull ha1))
          have HA := Lib.hid (And.intro ha (And.intro ha1 hfull))
          have HL20 := Lib.hid h6
          clear HRUN ha ha1 hfull
          have z0 : W1.frozen? ⟨W.heap.size, 0, none⟩ = false := by rw [← HW1.out]; simp
          by_cases hst : a = ⟨#[42]⟩
          · have HRT : Hid (routeB a b c = ⟨⟨#[]⟩, b, c⟩) := by show _ = _; unfold routeB; rw [if_pos (by rw [hst])]
            subst hst
            gi_wp2_with (first
              | (refine ⟨trivial, ?_⟩; gi_at_call 12; refine (CallsIn.inRound l (callsIn_wide.2 (HCS.out _))).mono ?_; rintro e w1 ⟨rfl, rfl⟩)
              | (refine ⟨trivial, ?_⟩; gi_at_call 13; refine (CallsIn.inRound l (callsIn_wide.2 HSP.out)).mono ?_; rintro e w1 ⟨rfl, rfl⟩))
            have HS2 := Lib.hid (star_world (W0 := W0) h5 hWW HV1.out HB1.out hz1 HKF.out HBL.out HO1.out (fun q hq => (H3.out.lt q hq).2) d0 d1 d2)
            obtain ⟨W2, hW2⟩ : ∃ W2, w1.setCell ⟨W.heap.size, 0, none⟩ (.string ⟨#[]⟩) = W2 := ⟨_, rfl⟩
            rw [hW2] at HS2 ⊢
            clear hW2 HV1 HB1 hz1 HKF HBL HO1 d0 d1 d2 k0 k1 k2 k3 j0 j1 j2 z0
            obtain ⟨hV2, hB2, hz1, hKF, hBL, hO1, d0, d1, d2⟩ := HS2.out
            have k0 := hV2.c0
            have k1 := hV2.c1
            have k2 := hV2.c2
            have k3 := hV2.c3
            have j0 := hV2.f0
            have j1 := hV2.f1
            have j2 := hV2.f2
            have z0 : True := trivial
            have HV1 := Lib.hid hV2
            have HB1 := Lib.hid hB2
            have HKF := Lib.hid hKF
            have HBL := Lib.hid hBL
            have HO1 := Lib.hid hO1
            clear hV2 hB2 hKF hBL hO1 HS2
            have hat : At encR (W2.alloc (.cells #[.string ⟨#[]⟩, .string b, .string c] 28)).drew (.slice (some ⟨W2.heap.size, 0, none⟩) 1 1) [⟨⟨#[]⟩, b, c⟩] := ((RowsK.Own.lit (E := encR) (b := 0) (e := 28) W2 #[.string ⟨#[]⟩, .string b, .string c] [⟨⟨#[]⟩, b, c⟩] (Nat.zero_le _) (by simp) rfl).drew).at_
            have hrw : RowsK.Own encR (W2.alloc (.cells #[.string ⟨#[]⟩, .string b, .string c] 28)).drew (s + 5) 28 (.slice la rl.length lc) rl := (HO1.out.alloc _).drew
            obtain ⟨v4, w4, hr4, hO4, hG4, -⟩ := RowsK.run_append_where elemR 22 (s + 5) hrw _ _ hat (by simp; have := HA.out.2.2; have := HL20.out; omega) (by simp; omega)
            have q3 : ((W2.alloc (.cells #[.string ⟨#[]⟩, .string b, .string c] 28)).drew).cell? ⟨s + 1 + 1 + 1, 0, none⟩ = some (.slice la rl.length lc) := (World.cell?_of_block (w := W2) (Below.heap_alloc _ _ _ (by simp only; omega))).trans k3
            have e0 : ((W2.alloc (.cells #[.string ⟨#[]⟩, .string b, .string c] 28)).drew).cell? ⟨W.heap.size, 0, none⟩ = some (.string ⟨#[]⟩) := (World.cell?_of_block (w := W2) (Below.heap_alloc _ _ _ (block_lt_of_cell d0))).trans d0
            have e1 : ((W2.alloc (.cells #[.string ⟨#[]⟩, .string b, .string c] 28)).drew).cell? ⟨W.heap.size, 1, none⟩ = some (.string b) := (World.cell?_of_block (w := W2) (Below.heap_alloc _ _ _ (block_lt_of_cell d1))).trans d1
            have e2 : ((W2.alloc (.cells #[.string ⟨#[]⟩, .string b, .string c] 28)).drew).cell? ⟨W.heap.size, 2, none⟩ = some (.string c) := (World.cell?_of_block (w := W2) (Below.heap_alloc _ _ _ (block_lt_of_cell d2))).trans d2
            obtain ⟨a9, c9, hv9, -⟩ := hO4.slice
            rw [show (rl ++ [(⟨⟨#[]⟩, b, c⟩ : RT)]).length = rl.length + 1 from by simp] at hv9
            subst hv9
            have hnb : ∀ q, q < s + 5 ∨ W.heap.size ≤ q → some q ≠ (Value.slice la rl.length lc).ownBlock := fun q hq e => by have := H3.out.lt q e.symm; omega
            have m0 : w4.cell? ⟨W.heap.size, 0, none⟩ = some (.string ⟨#[]⟩) := (World.cell?_of_block (w := (W2.alloc (.cells #[.string ⟨#[]⟩, .string b, .string c] 28)).drew) (hG4.block _ (block_lt_of_cell e0) (hnb _ (.inr (Nat.le_refl _))))).trans e0
            have m1 : w4.cell? ⟨W.heap.size, 1, none⟩ = some (.string b) := (World.cell?_of_block (w := (W2.alloc (.cells #[.string ⟨#[]⟩, .string b, .string c] 28)).drew) (hG4.block _ (block_lt_of_cell e1) (hnb _ (.inr (Nat.le_refl _))))).trans e1
            have m2 : w4.cell? ⟨W.heap.size, 2, none⟩ = some (.string c) := (World.cell?_of_block (w := (W2.alloc (.cells #[.string ⟨#[]⟩, .string b, .string c] 28)).drew) (hG4.block _ (block_lt_of_cell e2) (hnb _ (.inr (Nat.le_refl _))))).trans e2
            have m3 : w4.cell? ⟨s + 1 + 1 + 1, 0, none⟩ = some (.slice la rl.length lc) := (World.cell?_of_block (w := (W2.alloc (.cells #[.string ⟨#[]⟩, .string b, .string c] 28)).drew) (hG4.block _ (block_lt_of_cell q3) (hnb _ (.inl (by simp only; omega))))).trans q3
            have n3 : w4.frozen? ⟨s + 1 + 1 + 1, 0, none⟩ = false := (World.frozen?_of_block (w := (W2.alloc (.cells #[.string ⟨#[]⟩, .string b, .string c] 28)).drew) (hG4.block _ (block_lt_of_cell q3) (hnb _ (.inl (by simp only; omega))))).trans ((World.frozen?_of_block (w := W2) (Below.heap_alloc _ _ _ (block_lt_of_cell k3))).trans HV1.out.f3)
            have HG4 := Lib.hid hG4
            have HO4 := Lib.hid hO4
            clear hat hrw hG4 hO4
            refine wpIn_region_held (fun W' => W'.cell? ⟨W.heap.size, 0, none⟩ = some (.string ⟨#[]⟩) ∧ W'.cell? ⟨W.heap.size, 1, none⟩ = some (.string b) ∧ W'.cell? ⟨W.heap.size, 2, none⟩ = some (.string c)) (by kernel_rfl) (by kernel_rfl) ⟨d0, d1, d2⟩ (fun hS => ?_)
            refine wpAnyH_take (i := 1) (v := ?_) rfl (by kernel_rfl) (by kernel_rfl) (by kernel_rfl) (fun _ _ _ h => h) (Or.inl ⟨by rfl, ?_⟩) (by assumption) ?_; rotate_left
            · intro w' hSw; (try dsimp only at hSw); obtain ⟨g1, g2, g3⟩ := hSw; go_simp; (try (with_reducible rfl)); done
            refine wpAnyH_take (i := 2) (v := ?_) rfl (by kernel_rfl) (by kernel_rfl) (by kernel_rfl) (fun _ _ _ h => h) (Or.inl ⟨by rfl, ?_⟩) (by assumption) ?_; rotate_left
            · intro w' hSw; (try dsimp only at hSw); obtain ⟨g1, g2, g3⟩ := hSw; go_simp; (try (with_reducible rfl)); done
            refine wpAnyH_take (i := 3) (v := ?_) rfl (by kernel_rfl) (by kernel_rfl) (by kernel_rfl) (fun _ _ _ h => h) (Or.inl ⟨by rfl, ?_⟩) (by assumption) ?_; rotate_left
            · intro w' hSw; (try dsimp only at hSw); obtain ⟨g1, g2, g3⟩ := hSw; go_simp; (try (with_reducible rfl)); done
            refine wpAnyH_take (i := 4) (v := ?_) rfl (by kernel_rfl) (by kernel_rfl) (by kernel_rfl) (fun _ _ _ h => h) (Or.inl ⟨by rfl, ?_⟩) (by assumption) ?_; rotate_left
            · intro w' hSw; (try dsimp only at hSw); obtain ⟨g1, g2, g3⟩ := hSw; go_simp; (try (with_reducible rfl)); done
            refine wpAnyH_take (i := 5) (v := ?_) rfl (by kernel_rfl) (by kernel_rfl) (by kernel_rfl) (fun _ _ _ h => h) (Or.inl ⟨by rfl, ?_⟩) (by assumption) ?_; rotate_left
            · intro w' hSw; (try dsimp only at hSw); obtain ⟨g1, g2, g3⟩ := hSw; go_simp; (try (with_reducible rfl)); done
            refine wpAnyH_take (i := 6) (v := ?_) rfl (by kernel_rfl) (by kernel_rfl) (by kernel_rfl) (fun _ _ _ h => h) (Or.inl ⟨by rfl, ?_⟩) (by assumption) ?_; rotate_left
            · intro w' hSw; (try dsimp only at hSw); obtain ⟨g1, g2, g3⟩ := hSw; go_simp; (try (with_reducible rfl)); done
            refine wpAnyH_take (i := 7) (v := ?_) rfl (by kernel_rfl) (by kernel_rfl) (by kernel_rfl) (fun _ _ _ h => h) (Or.inl ⟨by rfl, ?_⟩) (by assumption) ?_; rotate_left
            · intro w' hSw; (try dsimp only at hSw); obtain ⟨g1, g2, g3⟩ := hSw; go_simp; (try (with_reducible rfl)); done
            refine wpAnyH_take (i := 8) (v := ?_) rfl (by kernel_rfl) (by kernel_rfl) (by kernel_rfl) (fun _ _ _ h => h) (Or.inl ⟨by rfl, ?_⟩) (by assumption) ?_; rotate_left
            · intro w' hSw; (try dsimp only at hSw); obtain ⟨g1, g2, g3⟩ := hSw; go_simp; (try (with_reducible rfl)); done
            refine wpAnyH_take (i := 9) (v := ?_) rfl (by kernel_rfl) (by kernel_rfl) (by kernel_rfl) (fun _ _ _ h => h) (Or.inl ⟨by rfl, ?_⟩) (by assumption) ?_; rotate_left
            · intro w' hSw; (try dsimp only at hSw); obtain ⟨g1, g2, g3⟩ := hSw; go_simp; (try (with_reducible rfl)); done
            refine wpAnyH_take (i := 10) (v := ?_) rfl (by kernel_rfl) (by kernel_rfl) (by kernel_rfl) (fun _ _ _ h => h) (Or.inl ⟨by rfl, ?_⟩) (by assumption) ?_; rotate_left
            · intro w' hSw; (try dsimp only at hSw); obtain ⟨g1, g2, g3⟩ := hSw; go_simp; (try (with_reducible rfl)); done
            refine wpAnyH_ready (rs := [0, 11]) (by kernel_rfl) (by simp) ?_
            refine AllReadyH.cons rfl (fun K hK => ?_) (AllReadyH.cons rfl (fun K hK => ?_) AllReadyH.nil)
            · go_simp
              refine hK.out _ _ ⟨d0, d1, d2⟩ (fun hS => ?_)
              clear hK K
              refine wpAnyH_ready (rs := [11]) (by kernel_rfl) (by simp) ?_
              refine AllReadyH.cons rfl (fun K hK => ?_) AllReadyH.nil
              go_simp
              refine hK.out _ _ ⟨e0, e1, e2⟩ (fun hS => ?_)
              clear hK K
              refine wpAnyH_ready (rs := [12]) (by kernel_rfl) (by simp) ?_
              refine AllReadyH.cons rfl (fun K hK => ?_) AllReadyH.nil
              refine RowsM.step_append_run rfl _ _ 22 rfl _ _ rfl rfl hr4 ?_
              refine hK.out _ _ ⟨m0, m1, m2⟩ (fun hS => ?_)
              clear hK K
              refine wpAnyH_ready (rs := [13]) (by kernel_rfl) (by simp) ?_
              refine AllReadyH.cons rfl (fun K hK => ?_) AllReadyH.nil
              go_simp
              refine hK.out _ _ ⟨putw m0 (by omega), putw m1 (by omega), putw m2 (by omega)⟩ (fun hS => wpAnyH_done (by kernel_rfl) (Only.normal ?_) _)
              clear hK K
              obtain ⟨X, hX⟩ : ∃ X, w4.setCell ⟨s + 1 + 1 + 1, 0, none⟩ (.slice a9 (rl.length + 1) c9) = X := ⟨_, rfl⟩
              have hG : Good w s W0.heap.size W X (.slice a9 (rl.length + 1) c9) (rl ++ [⟨⟨#[]⟩, b, c⟩]) := by rw [← hX]; exact good_of HV1.out HB1.out hz1 HKF.out HBL.out HO1.out HG4.out HO4.out (by omega)
              clear m0 m1 m2 m3 n3 e0 e1 e2 q3 d0 d1 d2 k0 k1 k2 k3 j0 j1 j2 z0 hS
              have HG := Lib.hid hG
              have y3 := hG.pv.c3
              have HRT2 := Lib.hid (route_q _ _ X hG.own.at_ rl.length (by simp) ⟨⟨#[]⟩, b, c⟩ (by simp))
              have hw1 : IntKind.i64.wrap (((rl.length + 1 : Nat) : Int) - 1) = (rl.length : Int) := by have := HL20.out; rw [show (((rl.length + 1 : Nat) : Int) - 1) = (rl.length : Int) from by omega]; rw [IntKind.wrap_i64]; omega
              rw [hX]
              clear hX hG
              gi_wp2_with (first
                | (refine ⟨trivial, ?_⟩; gi_at_call 14; refine (CallsIn.inRound l (callsIn_wide.2 HRT2.out)).mono ?_; rintro e w5 ⟨⟨h50, rfl⟩ | ⟨k5, h52, h53, rfl⟩, hB5⟩)
                | fail)
              · exact good_normal (HG.out.step (by omega) hB5) (by have h := HR2.out; rw [HRT.out, h50, if_pos rfl] at h; exact h) (by have := HA.out.2.2; have := HL20.out; simp; omega)
              · have hG5 := HG.out.step (by omega) hB5
                have k0 := hG5.pv.c0
                have j0 := hG5.pv.f0
                have k1 := hG5.pv.c1
                have j1 := hG5.pv.f1
                have k2 := hG5.pv.c2
                have j2 := hG5.pv.f2
                have k3 := hG5.pv.c3
                have HG5 := Lib.hid hG5
                have H52 := Lib.hid h52
                have H53 := Lib.hid h53
                clear hG5 hB5 y3 h52 h53
                refine wpIn_region_held (fun W' => W'.cell? ⟨s + 1 + 1 + 1, 0, none⟩ = some (.slice a9 (rl.length + 1) c9)) (by kernel_rfl) (by kernel_rfl) k3 (fun hS => ?_)
                refine wpAnyH_take (i := 0) (v := ?_) rfl (by kernel_rfl) (by kernel_rfl) (by kernel_rfl) (fun _ _ _ h => h) (Or.inl ⟨by rfl, ?_⟩) (by assumption) ?_; rotate_left
                · intro w' hSw; (try dsimp only at hSw); go_simp; (try (with_reducible rfl)); done
                refine wpAnyH_take (i := 1) (v := ?_) rfl (by kernel_rfl) (by kernel_rfl) (by kernel_rfl) (fun _ _ _ h => h) (Or.inl ⟨by rfl, ?_⟩) (by assumption) ?_; rotate_left
                · intro w' hSw; (try dsimp only at hSw); go_simp; (try (with_reducible rfl)); done
                refine wpAnyH_take (i := 2) (v := ?_) rfl (by kernel_rfl) (by kernel_rfl) (by kernel_rfl) (fun _ _ _ h => h) (Or.inl ⟨by rfl, ?_⟩) (by assumption) ?_; rotate_left
                · intro w' hSw; (try dsimp only at hSw); go_simp; (try (with_reducible rfl)); done
                refine wpAnyH_take (i := 3) (v := ?_) rfl (by kernel_rfl) (by kernel_rfl) (by kernel_rfl) (fun _ _ _ h => h) (Or.inl ⟨by rfl, ?_⟩) (by assumption) ?_; rotate_left
                · intro w' hSw; (try dsimp only at hSw); go_simp; (try (with_reducible rfl)); done
                refine wpAnyH_ready (rs := [4]) (by kernel_rfl) (by simp) ?_
                refine AllReadyH.cons rfl (fun K hK => ?_) AllReadyH.nil
                go_simp
                refine hK.out _ _ (put1_3 k3) (fun hS => ?_)
                clear hK K
                refine wpAnyH_ready (rs := [5]) (by kernel_rfl) (by simp) ?_
                refine AllReadyH.cons rfl (fun K hK => ?_) AllReadyH.nil
                go_simp
                refine hK.out _ _ (put2_3 k3) (fun hS => ?_)
                clear hK K
                refine wpAnyH_ready (rs := [6]) (by kernel_rfl) (by simp) ?_
                refine AllReadyH.cons rfl (fun K hK => ?_) AllReadyH.nil
                go_simp
                refine hK.out _ _ (put3_3 k3) (fun hS => wpAnyH_done (by kernel_rfl) (Only.normal ?_) _)
                clear hK K
                gi_wp2
                have hk5 : k5 ≠ 0 := by rcases H52.out with h | h <;> omega
                rw [show IntKind.i64.wrap (rl.length : Int) = (rl.length : Int) from by have := HL20.out; rw [IntKind.wrap_i64]; omega]
                have hEk : Value.iface 46 (.int .i64 k5) = errV k5 := by unfold errV; rw [if_neg hk5]
                rw [hEk]
                exact bad_end HG5.out.pv HG5.out.bel HG5.out.sz HG5.out.keep (by have h := HR2.out; rw [HRT.out, H53.out, if_neg hk5] at h; exact h) hk5 (by omega) (by omega)
            · go_simp
              refine hK.out _ _ ⟨e0, e1, e2⟩ (fun hS => ?_)
              clear hK K
              refine wpAnyH_ready (rs := [0]) (by kernel_rfl) (by simp) ?_
              refine AllReadyH.cons rfl (fun K hK => ?_) AllReadyH.nil
              go_simp
              refine hK.out _ _ ⟨e0, e1, e2⟩ (fun hS => ?_)
              clear hK K
              refine wpAnyH_ready (rs := [12]) (by kernel_rfl) (by simp) ?_
              refine AllReadyH.cons rfl (fun K hK => ?_) AllReadyH.nil
              refine RowsM.step_append_run rfl _ _ 22 rfl _ _ rfl rfl hr4 ?_
              refine hK.out _ _ ⟨m0, m1, m2⟩ (fun hS => ?_)
              clear hK K
              refine wpAnyH_ready (rs := [13]) (by kernel_rfl) (by simp) ?_
              refine AllReadyH.cons rfl (fun K hK => ?_) AllReadyH.nil
              go_simp
              refine hK.out _ _ ⟨putw m0 (by omega), putw m1 (by omega), putw m2 (by omega)⟩ (fun hS => wpAnyH_done (by kernel_rfl) (Only.normal ?_) _)
              clear hK K
              obtain ⟨X, hX⟩ : ∃ X, w4.setCell ⟨s + 1 + 1 + 1, 0, none⟩ (.slice a9 (rl.length + 1) c9) = X := ⟨_, rfl⟩
              have hG : Good w s W0.heap.size W X (.slice a9 (rl.length + 1) c9) (rl ++ [⟨⟨#[]⟩, b, c⟩]) := by rw [← hX]; exact good_of HV1.out HB1.out hz1 HKF.out HBL.out HO1.out HG4.out HO4.out (by omega)
              clear m0 m1 m2 m3 n3 e0 e1 e2 q3 d0 d1 d2 k0 k1 k2 k3 j0 j1 j2 z0 hS
              have HG := Lib.hid hG
              have y3 := hG.pv.c3
              have HRT2 := Lib.hid (route_q _ _ X hG.own.at_ rl.length (by simp) ⟨⟨#[]⟩, b, c⟩ (by simp))
              have hw1 : IntKind.i64.wrap (((rl.length + 1 : Nat) : Int) - 1) = (rl.length : Int) := by have := HL20.out; rw [show (((rl.length + 1 : Nat) : Int) - 1) = (rl.length : Int) from by omega]; rw [IntKind.wrap_i64]; omega
              rw [hX]
              clear hX hG
              gi_wp2_with (first
                | (refine ⟨trivial, ?_⟩; gi_at_call 14; refine (CallsIn.inRound l (callsIn_wide.2 HRT2.out)).mono ?_; rintro e w5 ⟨⟨h50, rfl⟩ | ⟨k5, h52, h53, rfl⟩, hB5⟩)
                | fail)
              · exact good_normal (HG.out.step (by omega) hB5) (by have h := HR2.out; rw [HRT.out, h50, if_pos rfl] at h; exact h) (by have := HA.out.2.2; have := HL20.out; simp; omega)
              · have hG5 := HG.out.step (by omega) hB5
                have k0 := hG5.pv.c0
                have j0 := hG5.pv.f0
                have k1 := hG5.pv.c1
                have j1 := hG5.pv.f1
                have k2 := hG5.pv.c2
                have j2 := hG5.pv.f2
                have k3 := hG5.pv.c3
                have HG5 := Lib.hid hG5
                have H52 := Lib.hid h52
                have H53 := Lib.hid h53
                clear hG5 hB5 y3 h52 h53
                refine wpIn_region_held (fun W' => W'.cell? ⟨s + 1 + 1 + 1, 0, none⟩ = some (.slice a9 (rl.length + 1) c9)) (by kernel_rfl) (by kernel_rfl) k3 (fun hS => ?_)
                refine wpAnyH_take (i := 0) (v := ?_) rfl (by kernel_rfl) (by kernel_rfl) (by kernel_rfl) (fun _ _ _ h => h) (Or.inl ⟨by rfl, ?_⟩) (by assumption) ?_; rotate_left
                · intro w' hSw; (try dsimp only at hSw); go_simp; (try (with_reducible rfl)); done
                refine wpAnyH_take (i := 1) (v := ?_) rfl (by kernel_rfl) (by kernel_rfl) (by kernel_rfl) (fun _ _ _ h => h) (Or.inl ⟨by rfl, ?_⟩) (by assumption) ?_; rotate_left
                · intro w' hSw; (try dsimp only at hSw); go_simp; (try (with_reducible rfl)); done
                refine wpAnyH_take (i := 2) (v := ?_) rfl (by kernel_rfl) (by kernel_rfl) (by kernel_rfl) (fun _ _ _ h => h) (Or.inl ⟨by rfl, ?_⟩) (by assumption) ?_; rotate_left
                · intro w' hSw; (try dsimp only at hSw); go_simp; (try (with_reducible rfl)); done
                refine wpAnyH_take (i := 3) (v := ?_) rfl (by kernel_rfl) (by kernel_rfl) (by kernel_rfl) (fun _ _ _ h => h) (Or.inl ⟨by rfl, ?_⟩) (by assumption) ?_; rotate_left
                · intro w' hSw; (try dsimp only at hSw); go_simp; (try (with_reducible rfl)); done
                refine wpAnyH_ready (rs := [4]) (by kernel_rfl) (by simp) ?_
                refine AllReadyH.cons rfl (fun K hK => ?_) AllReadyH.nil
                go_simp
                refine hK.out _ _ (put1_3 k3) (fun hS => ?_)
                clear hK K
                refine wpAnyH_ready (rs := [5]) (by kernel_rfl) (by simp) ?_
                refine AllReadyH.cons rfl (fun K hK => ?_) AllReadyH.nil
                go_simp
                refine hK.out _ _ (put2_3 k3) (fun hS => ?_)
                clear hK K
                refine wpAnyH_ready (rs := [6]) (by kernel_rfl) (by simp) ?_
                refine AllReadyH.cons rfl (fun K hK => ?_) AllReadyH.nil
                go_simp
                refine hK.out _ _ (put3_3 k3) (fun hS => wpAnyH_done (by kernel_rfl) (Only.normal ?_) _)
                clear hK K
                gi_wp2
                have hk5 : k5 ≠ 0 := by rcases H52.out with h | h <;> omega
                rw [show IntKind.i64.wrap (rl.length : Int) = (rl.length : Int) from by have := HL20.out; rw [IntKind.wrap_i64]; omega]
                have hEk : Value.iface 46 (.int .i64 k5) = errV k5 := by unfold errV; rw [if_neg hk5]
                rw [hEk]
                exact bad_end HG5.out.pv HG5.out.bel HG5.out.sz HG5.out.keep (by have h := HR2.out; rw [HRT.out, H53.out, if_neg hk5] at h; exact h) hk5 (by omega) (by omega)
          · have hs1 : a.data.toList ≠ [42] := fun e => hst (by cases a; simp only at e; exact congrArg ByteArray.mk (Array.toList_inj.1 e))
            have HRT : Hid (routeB a b c = ⟨a, b, c⟩) := by show _ = _; unfold routeB; rw [if_neg hs1]
            have hs2 : (a.toList == [42]) = false := by rw [beq_eq_false_iff_ne, ByteArray.toList_eq]; exact hs1
            clear hst hs1
            have hat : At encR (W1.alloc (.cells #[.string a, .string b, .string c] 28)).drew (.slice (some ⟨W1.heap.size, 0, none⟩) 1 1) [⟨a, b, c⟩] := ((RowsK.Own.lit (E := encR) (b := 0) (e := 28) W1 #[.string a, .string b, .string c] [⟨a, b, c⟩] (Nat.zero_le _) (by simp) rfl).drew).at_
            have hrw : RowsK.Own encR (W1.alloc (.cells #[.string a, .string b, .string c] 28)).drew (s + 5) 28 (.slice la rl.length lc) rl := (HO1.out.alloc _).drew
            obtain ⟨v4, w4, hr4, hO4, hG4, -⟩ := RowsK.run_append_where elemR 22 (s + 5) hrw _ _ hat (by simp; have := HA.out.2.2; have := HL20.out; omega) (by simp; omega)
            have q3 : ((W1.alloc (.cells #[.string a, .string b, .string c] 28)).drew).cell? ⟨s + 1 + 1 + 1, 0, none⟩ = some (.slice la rl.length lc) := (World.cell?_of_block (w := W1) (Below.heap_alloc _ _ _ (by simp only; omega))).trans k3
            have e0 : ((W1.alloc (.cells #[.string a, .string b, .string c] 28)).drew).cell? ⟨W.heap.size, 0, none⟩ = some (.string a) := (World.cell?_of_block (w := W1) (Below.heap_alloc _ _ _ (block_lt_of_cell d0))).trans d0
            have e1 : ((W1.alloc (.cells #[.string a, .string b, .string c] 28)).drew).cell? ⟨W.heap.size, 1, none⟩ = some (.string b) := (World.cell?_of_block (w := W1) (Below.heap_alloc _ _ _ (block_lt_of_cell d1))).trans d1
            have e2 : ((W1.alloc (.cells #[.string a, .string b, .string c] 28)).drew).cell? ⟨W.heap.size, 2, none⟩ = some (.string c) := (World.cell?_of_block (w := W1) (Below.heap_alloc _ _ _ (block_lt_of_cell d2))).trans d2
            obtain ⟨a9, c9, hv9, -⟩ := hO4.slice
            rw [show (rl ++ [(⟨a, b, c⟩ : RT)]).length = rl.length + 1 from by simp] at hv9
            subst hv9
            have hnb : ∀ q, q < s + 5 ∨ W.heap.size ≤ q → some q ≠ (Value.slice la rl.length lc).ownBlock := fun q hq e => by have := H3.out.lt q e.symm; omega
            have m0 : w4.cell? ⟨W.heap.size, 0, none⟩ = some (.string a) := (World.cell?_of_block (w := (W1.alloc (.cells #[.string a, .string b, .string c] 28)).drew) (hG4.block _ (block_lt_of_cell e0) (hnb _ (.inr (Nat.le_refl _))))).trans e0
            have m1 : w4.cell? ⟨W.heap.size, 1, none⟩ = some (.string b) := (World.cell?_of_block (w := (W1.alloc (.cells #[.string a, .string b, .string c] 28)).drew) (hG4.block _ (block_lt_of_cell e1) (hnb _ (.inr (Nat.le_refl _))))).trans e1
            have m2 : w4.cell? ⟨W.heap.size, 2, none⟩ = some (.string c) := (World.cell?_of_block (w := (W1.alloc (.cells #[.string a, .string b, .string c] 28)).drew) (hG4.block _ (block_lt_of_cell e2) (hnb _ (.inr (Nat.le_refl _))))).trans e2
            have m3 : w4.cell? ⟨s + 1 + 1 + 1, 0, none⟩ = some (.slice la rl.length lc) := (World.cell?_of_block (w := (W1.alloc (.cells #[.string a, .string b, .string c] 28)).drew) (hG4.block _ (block_lt_of_cell q3) (hnb _ (.inl (by simp only; omega))))).trans q3
            have n3 : w4.frozen? ⟨s + 1 + 1 + 1, 0, none⟩ = false := (World.frozen?_of_block (w := (W1.alloc (.cells #[.string a, .string b, .string c] 28)).drew) (hG4.block _ (block_lt_of_cell q3) (hnb _ (.inl (by simp only; omega))))).trans ((World.frozen?_of_block (w := W1) (Below.heap_alloc _ _ _ (block_lt_of_cell k3))).trans HV1.out.f3)
            have HG4 := Lib.hid hG4
            have HO4 := Lib.hid hO4
            clear hat hrw hG4 hO4
            gi_wp2_with (first
              | (refine ⟨trivial, ?_⟩; gi_at_call 12; refine (CallsIn.inRound l (callsIn_wide.2 (HCS.out _))).mono ?_; rintro e w1 ⟨rfl, rfl⟩)
              | (refine ⟨trivial, ?_⟩; gi_at_call 13; refine (CallsIn.inRound l (callsIn_wide.2 HSP.out)).mono ?_; rintro e w1 ⟨rfl, rfl⟩))
            refine wpIn_region_held (fun W' => W'.cell? ⟨W.heap.size, 0, none⟩ = some (.string a) ∧ W'.cell? ⟨W.heap.size, 1, none⟩ = some (.string b) ∧ W'.cell? ⟨W.heap.size, 2, none⟩ = some (.string c)) (by kernel_rfl) (by kernel_rfl) ⟨d0, d1, d2⟩ (fun hS => ?_)
            refine wpAnyH_take (i := 1) (v := ?_) rfl (by kernel_rfl) (by kernel_rfl) (by kernel_rfl) (fun _ _ _ h => h) (Or.inl ⟨by rfl, ?_⟩) (by assumption) ?_; rotate_left
            · intro w' hSw; (try dsimp only at hSw); obtain ⟨g1, g2, g3⟩ := hSw; go_simp; (try (with_reducible rfl)); done
            refine wpAnyH_take (i := 2) (v := ?_) rfl (by kernel_rfl) (by kernel_rfl) (by kernel_rfl) (fun _ _ _ h => h) (Or.inl ⟨by rfl, ?_⟩) (by assumption) ?_; rotate_left
            · intro w' hSw; (try dsimp only at hSw); obtain ⟨g1, g2, g3⟩ := hSw; go_simp; (try (with_reducible rfl)); done
            refine wpAnyH_take (i := 3) (v := ?_) rfl (by kernel_rfl) (by kernel_rfl) (by kernel_rfl) (fun _ _ _ h => h) (Or.inl ⟨by rfl, ?_⟩) (by assumption) ?_; rotate_left
            · intro w' hSw; (try dsimp only at hSw); obtain ⟨g1, g2, g3⟩ := hSw; go_simp; (try (with_reducible rfl)); done
            refine wpAnyH_take (i := 4) (v := ?_) rfl (by kernel_rfl) (by kernel_rfl) (by kernel_rfl) (fun _ _ _ h => h) (Or.inl ⟨by rfl, ?_⟩) (by assumption) ?_; rotate_left
            · intro w' hSw; (try dsimp only at hSw); obtain ⟨g1, g2, g3⟩ := hSw; go_simp; (try (with_reducible rfl)); done
            refine wpAnyH_take (i := 5) (v := ?_) rfl (by kernel_rfl) (by kernel_rfl) (by kernel_rfl) (fun _ _ _ h => h) (Or.inl ⟨by rfl, ?_⟩) (by assumption) ?_; rotate_left
            · intro w' hSw; (try dsimp only at hSw); obtain ⟨g1, g2, g3⟩ := hSw; go_simp; (try (with_reducible rfl)); done
            refine wpAnyH_take (i := 6) (v := ?_) rfl (by kernel_rfl) (by kernel_rfl) (by kernel_rfl) (fun _ _ _ h => h) (Or.inl ⟨by rfl, ?_⟩) (by assumption) ?_; rotate_left
            · intro w' hSw; (try dsimp only at hSw); obtain ⟨g1, g2, g3⟩ := hSw; go_simp; (try (with_reducible rfl)); done
            refine wpAnyH_take (i := 7) (v := ?_) rfl (by kernel_rfl) (by kernel_rfl) (by kernel_rfl) (fun _ _ _ h => h) (Or.inl ⟨by rfl, ?_⟩) (by assumption) ?_; rotate_left
            · intro w' hSw; (try dsimp only at hSw); obtain ⟨g1, g2, g3⟩ := hSw; go_simp; (try (with_reducible rfl)); done
            refine wpAnyH_take (i := 8) (v := ?_) rfl (by kernel_rfl) (by kernel_rfl) (by kernel_rfl) (fun _ _ _ h => h) (Or.inl ⟨by rfl, ?_⟩) (by assumption) ?_; rotate_left
            · intro w' hSw; (try dsimp only at hSw); obtain ⟨g1, g2, g3⟩ := hSw; go_simp; (try (with_reducible rfl)); done
            refine wpAnyH_take (i := 9) (v := ?_) rfl (by kernel_rfl) (by kernel_rfl) (by kernel_rfl) (fun _ _ _ h => h) (Or.inl ⟨by rfl, ?_⟩) (by assumption) ?_; rotate_left
            · intro w' hSw; (try dsimp only at hSw); obtain ⟨g1, g2, g3⟩ := hSw; go_simp; (try (with_reducible rfl)); done
            refine wpAnyH_take (i := 10) (v := ?_) rfl (by kernel_rfl) (by kernel_rfl) (by kernel_rfl) (fun _ _ _ h => h) (Or.inl ⟨by rfl, ?_⟩) (by assumption) ?_; rotate_left
            · intro w' hSw; (try dsimp only at hSw); obtain ⟨g1, g2, g3⟩ := hSw; go_simp; (try (with_reducible rfl)); done
            refine wpAnyH_ready (rs := [0, 11]) (by kernel_rfl) (by simp) ?_
            refine AllReadyH.cons rfl (fun K hK => ?_) (AllReadyH.cons rfl (fun K hK => ?_) AllReadyH.nil)
            · go_simp
              refine hK.out _ _ ⟨d0, d1, d2⟩ (fun hS => ?_)
              clear hK K
              refine wpAnyH_ready (rs := [11]) (by kernel_rfl) (by simp) ?_
              refine AllReadyH.cons rfl (fun K hK => ?_) AllReadyH.nil
              go_simp
              refine hK.out _ _ ⟨e0, e1, e2⟩ (fun hS => ?_)
              clear hK K
              refine wpAnyH_ready (rs := [12]) (by kernel_rfl) (by simp) ?_
              refine AllReadyH.cons rfl (fun K hK => ?_) AllReadyH.nil
              refine RowsM.step_append_run rfl _ _ 22 rfl _ _ rfl rfl hr4 ?_
              refine hK.out _ _ ⟨m0, m1, m2⟩ (fun hS => ?_)
              clear hK K
              refine wpAnyH_ready (rs := [13]) (by kernel_rfl) (by simp) ?_
              refine AllReadyH.cons rfl (fun K hK => ?_) AllReadyH.nil
              go_simp
              refine hK.out _ _ ⟨putw m0 (by omega), putw m1 (by omega), putw m2 (by omega)⟩ (fun hS => wpAnyH_done (by kernel_rfl) (Only.normal ?_) _)
              clear hK K
              obtain ⟨X, hX⟩ : ∃ X, w4.setCell ⟨s + 1 + 1 + 1, 0, none⟩ (.slice a9 (rl.length + 1) c9) = X := ⟨_, rfl⟩
              have hG : Good w s W0.heap.size W X (.slice a9 (rl.length + 1) c9) (rl ++ [⟨a, b, c⟩]) := by rw [← hX]; exact good_of HV1.out HB1.out hz1 HKF.out HBL.out HO1.out HG4.out HO4.out (by omega)
              clear m0 m1 m2 m3 n3 e0 e1 e2 q3 d0 d1 d2 k0 k1 k2 k3 j0 j1 j2 z0 hS
              have HG := Lib.hid hG
              have y3 := hG.pv.c3
              have HRT2 := Lib.hid (route_q _ _ X hG.own.at_ rl.length (by simp) ⟨a, b, c⟩ (by simp))
              have hw1 : IntKind.i64.wrap (((rl.length + 1 : Nat) : Int) - 1) = (rl.length : Int) := by have := HL20.out; rw [show (((rl.length + 1 : Nat) : Int) - 1) = (rl.length : Int) from by omega]; rw [IntKind.wrap_i64]; omega
              rw [hX]
              clear hX hG
              gi_wp2_with (first
                | (refine ⟨trivial, ?_⟩; gi_at_call 14; refine (CallsIn.inRound l (callsIn_wide.2 HRT2.out)).mono ?_; rintro e w5 ⟨⟨h50, rfl⟩ | ⟨k5, h52, h53, rfl⟩, hB5⟩)
                | fail)
              · exact good_normal (HG.out.step (by omega) hB5) (by have h := HR2.out; rw [HRT.out, h50, if_pos rfl] at h; exact h) (by have := HA.out.2.2; have := HL20.out; simp; omega)
              · have hG5 := HG.out.step (by omega) hB5
                have k0 := hG5.pv.c0
                have j0 := hG5.pv.f0
                have k1 := hG5.pv.c1
                have j1 := hG5.pv.f1
                have k2 := hG5.pv.c2
                have j2 := hG5.pv.f2
                have k3 := hG5.pv.c3
                have HG5 := Lib.hid hG5
                have H52 := Lib.hid h52
                have H53 := Lib.hid h53
                clear hG5 hB5 y3 h52 h53
                refine wpIn_region_held (fun W' => W'.cell? ⟨s + 1 + 1 + 1, 0, none⟩ = some (.slice a9 (rl.length + 1) c9)) (by kernel_rfl) (by kernel_rfl) k3 (fun hS => ?_)
                refine wpAnyH_take (i := 0) (v := ?_) rfl (by kernel_rfl) (by kernel_rfl) (by kernel_rfl) (fun _ _ _ h => h) (Or.inl ⟨by rfl, ?_⟩) (by assumption) ?_; rotate_left
                · intro w' hSw; (try dsimp only at hSw); go_simp; (try (with_reducible rfl)); done
                refine wpAnyH_take (i := 1) (v := ?_) rfl (by kernel_rfl) (by kernel_rfl) (by kernel_rfl) (fun _ _ _ h => h) (Or.inl ⟨by rfl, ?_⟩) (by assumption) ?_; rotate_left
                · intro w' hSw; (try dsimp only at hSw); go_simp; (try (with_reducible rfl)); done
                refine wpAnyH_take (i := 2) (v := ?_) rfl (by kernel_rfl) (by kernel_rfl) (by kernel_rfl) (fun _ _ _ h => h) (Or.inl ⟨by rfl, ?_⟩) (by assumption) ?_; rotate_left
                · intro w' hSw; (try dsimp only at hSw); go_simp; (try (with_reducible rfl)); done
                refine wpAnyH_take (i := 3) (v := ?_) rfl (by kernel_rfl) (by kernel_rfl) (by kernel_rfl) (fun _ _ _ h => h) (Or.inl ⟨by rfl, ?_⟩) (by assumption) ?_; rotate_left
                · intro w' hSw; (try dsimp only at hSw); go_simp; (try (with_reducible rfl)); done
                refine wpAnyH_ready (rs := [4]) (by kernel_rfl) (by simp) ?_
                refine AllReadyH.cons rfl (fun K hK => ?_) AllReadyH.nil
                go_simp
                refine hK.out _ _ (put1_3 k3) (fun hS => ?_)
                clear hK K
                refine wpAnyH_ready (rs := [5]) (by kernel_rfl) (by simp) ?_
                refine AllReadyH.cons rfl (fun K hK => ?_) AllReadyH.nil
                go_simp
                refine hK.out _ _ (put2_3 k3) (fun hS => ?_)
                clear hK K
                refine wpAnyH_ready (rs := [6]) (by kernel_rfl) (by simp) ?_
                refine AllReadyH.cons rfl (fun K hK => ?_) AllReadyH.nil
                go_simp
                refine hK.out _ _ (put3_3 k3) (fun hS => wpAnyH_done (by kernel_rfl) (Only.normal ?_) _)
                clear hK K
                gi_wp2
                have hk5 : k5 ≠ 0 := by rcases H52.out with h | h <;> omega
                rw [show IntKind.i64.wrap (rl.length : Int) = (rl.length : Int) from by have := HL20.out; rw [IntKind.wrap_i64]; omega]
                have hEk : Value.iface 46 (.int .i64 k5) = errV k5 := by unfold errV; rw [if_neg hk5]
                rw [hEk]
                exact bad_end HG5.out.pv HG5.out.bel HG5.out.sz HG5.out.keep (by have h := HR2.out; rw [HRT.out, H53.out, if_neg hk5] at h; exact h) hk5 (by omega) (by omega)
            · go_simp
              refine hK.out _ _ ⟨e0, e1, e2⟩ (fun hS => ?_)
              clear hK K
              refine wpAnyH_ready (rs := [0]) (by kernel_rfl) (by simp) ?_
              refine AllReadyH.cons rfl (fun K hK => ?_) AllReadyH.nil
              go_simp
              refine hK.out _ _ ⟨e0, e1, e2⟩ (fun hS => ?_)
              clear hK K
              refine wpAnyH_ready (rs := [12]) (by kernel_rfl) (by simp) ?_
              refine AllReadyH.cons rfl (fun K hK => ?_) AllReadyH.nil
              refine RowsM.step_append_run rfl _ _ 22 rfl _ _ rfl rfl hr4 ?_
              refine hK.out _ _ ⟨m0, m1, m2⟩ (fun hS => ?_)
              clear hK K
              refine wpAnyH_ready (rs := [13]) (by kernel_rfl) (by simp) ?_
              refine AllReadyH.cons rfl (fun K hK => ?_) AllReadyH.nil
              go_simp
              refine hK.out _ _ ⟨putw m0 (by omega), putw m1 (by omega), putw m2 (by omega)⟩ (fun hS => wpAnyH_done (by kernel_rfl) (Only.normal ?_) _)
              clear hK K
              obtain ⟨X, hX⟩ : ∃ X, w4.setCell ⟨s + 1 + 1 + 1, 0, none⟩ (.slice a9 (rl.length + 1) c9) = X := ⟨_, rfl⟩
              have hG : Good w s W0.heap.size W X (.slice a9 (rl.length + 1) c9) (rl ++ [⟨a, b, c⟩]) := by rw [← hX]; exact good_of HV1.out HB1.out hz1 HKF.out HBL.out HO1.out HG4.out HO4.out (by omega)
              clear m0 m1 m2 m3 n3 e0 e1 e2 q3 d0 d1 d2 k0 k1 k2 k3 j0 j1 j2 z0 hS
              have HG := Lib.hid hG
              have y3 := hG.pv.c3
              have HRT2 := Lib.hid (route_q _ _ X hG.own.at_ rl.length (by simp) ⟨a, b, c⟩ (by simp))
              have hw1 : IntKind.i64.wrap (((rl.length + 1 : Nat) : Int) - 1) = (rl.length : Int) := by have := HL20.out; rw [show (((rl.length + 1 : Nat) : Int) - 1) = (rl.length : Int) from by omega]; rw [IntKind.wrap_i64]; omega
              rw [hX]
              clear hX hG
              gi_wp2_with (first
                | (refine ⟨trivial, ?_⟩; gi_at_call 14; refine (CallsIn.inRound l (callsIn_wide.2 HRT2.out)).mono ?_; rintro e w5 ⟨⟨h50, rfl⟩ | ⟨k5, h52, h53, rfl⟩, hB5⟩)
                | fail)
              · exact good_normal (HG.out.step (by omega) hB5) (by have h := HR2.out; rw [HRT.out, h50, if_pos rfl] at h; exact h) (by have := HA.out.2.2; have := HL20.out; simp; omega)
              · have hG5 := HG.out.step (by omega) hB5
                have k0 := hG5.pv.c0
                have j0 := hG5.pv.f0
                have k1 := hG5.pv.c1
                have j1 := hG5.pv.f1
                have k2 := hG5.pv.c2
                have j2 := hG5.pv.f2
                have k3 := hG5.pv.c3
                have HG5 := Lib.hid hG5
                have H52 := Lib.hid h52
                have H53 := Lib.hid h53
                clear hG5 hB5 y3 h52 h53
                refine wpIn_region_held (fun W' => W'.cell? ⟨s + 1 + 1 + 1, 0, none⟩ = some (.slice a9 (rl.length + 1) c9)) (by kernel_rfl) (by kernel_rfl) k3 (fun hS => ?_)
                refine wpAnyH_take (i := 0) (v := ?_) rfl (by kernel_rfl) (by kernel_rfl) (by kernel_rfl) (fun _ _ _ h => h) (Or.inl ⟨by rfl, ?_⟩) (by assumption) ?_; rotate_left
                · intro w' hSw; (try dsimp only at hSw); go_simp; (try (with_reducible rfl)); done
                refine wpAnyH_take (i := 1) (v := ?_) rfl (by kernel_rfl) (by kernel_rfl) (by kernel_rfl) (fun _ _ _ h => h) (Or.inl ⟨by rfl, ?_⟩) (by assumption) ?_; rotate_left
                · intro w' hSw; (try dsimp only at hSw); go_simp; (try (with_reducible rfl)); done
                refine wpAnyH_take (i := 2) (v := ?_) rfl (by kernel_rfl) (by kernel_rfl) (by kernel_rfl) (fun _ _ _ h => h) (Or.inl ⟨by rfl, ?_⟩) (by assumption) ?_; rotate_left
                · intro w' hSw; (try dsimp only at hSw); go_simp; (try (with_reducible rfl)); done
                refine wpAnyH_take (i := 3) (v := ?_) rfl (by kernel_rfl) (by kernel_rfl) (by kernel_rfl) (fun _ _ _ h => h) (Or.inl ⟨by rfl, ?_⟩) (by assumption) ?_; rotate_left
                · intro w' hSw; (try dsimp only at hSw); go_simp; (try (with_reducible rfl)); done
                refine wpAnyH_ready (rs := [4]) (by kernel_rfl) (by simp) ?_
                refine AllReadyH.cons rfl (fun K hK => ?_) AllReadyH.nil
                go_simp
                refine hK.out _ _ (put1_3 k3) (fun hS => ?_)
                clear hK K
                refine wpAnyH_ready (rs := [5]) (by kernel_rfl) (by simp) ?_
                refine AllReadyH.cons rfl (fun K hK => ?_) AllReadyH.nil
                go_simp
                refine hK.out _ _ (put2_3 k3) (fun hS => ?_)
                clear hK K
                refine wpAnyH_ready (rs := [6]) (by kernel_rfl) (by simp) ?_
                refine AllReadyH.cons rfl (fun K hK => ?_) AllReadyH.nil
                go_simp
                refine hK.out _ _ (put3_3 k3) (fun hS => wpAnyH_done (by kernel_rfl) (Only.normal ?_) _)
                clear hK K
                gi_wp2
                have hk5 : k5 ≠ 0 := by rcases H52.out with h | h <;> omega
                rw [show IntKind.i64.wrap (rl.length : Int) = (rl.length : Int) from by have := HL20.out; rw [IntKind.wrap_i64]; omega]
                have hEk : Value.iface 46 (.int .i64 k5) = errV k5 := by unfold errV; rw [if_neg hk5]
                rw [hEk]
                exact bad_end HG5.out.pv HG5.out.bel HG5.out.sz HG5.out.keep (by have h := HR2.out; rw [HRT.out, H53.out, if_neg hk5] at h; exact h) hk5 (by omega) (by omega)
  case done =>
    rintro D ys W hD hys ⟨lv, rl, h1, h2, h3, h4, h5, -⟩ hK
    have hP : parseP text.data.toList = (rl, 0, 0) := by unfold parseP; rw [← hys, h1]; rfl
    have HP := Lib.hid hP
    have H2 := Lib.hid h2
    have H3 := Lib.hid h3
    have H4 := Lib.hid h4
    have HK := Lib.hid hK
    have hDW := (Array.getElem?_eq_some_iff.1 hK).1
    have c3 := h2.c3
    have f0 := h2.f0
    have f1 := h2.f1
    have f2 := h2.f2
    have c0 := h2.c0
    have c1 := h2.c1
    have c2 := h2.c2
    obtain ⟨la, lc, hlv, -⟩ := h3.slice
    subst hlv
    clear hP hys h1 h2 h3 h4 hK
    go_wp2_with fail
    have hDs : s + 5 ≤ D := by rw [← hz0]; exact hD
    obtain ⟨W3, hW3⟩ : ∃ W3, ((W.setCell ⟨s, 0, none⟩ (.slice la rl.length lc)).setCell ⟨s + 1, 0, none⟩ (.int .i64 0)).setCell ⟨s + 1 + 1, 0, none⟩ .nilIface = W3 := ⟨_, rfl⟩
    have g0 : W3.cell? ⟨s, 0, none⟩ = some (.slice la rl.length lc) := by rw [← hW3]; exact cell3_0 c0
    have g1 : W3.cell? ⟨s + 1, 0, none⟩ = some (.int .i64 0) := by rw [← hW3]; exact cell3_1 c1
    have g2 : W3.cell? ⟨s + 1 + 1, 0, none⟩ = some .nilIface := by rw [← hW3]; exact cell3_2 c2
    have hrow : RowsK.Own encR W3 (s + 5) 28 (.slice la rl.length lc) rl := by
      have hne : ∀ q, q < s + 5 → (Value.slice la rl.length lc).ownBlock ≠ some q := fun q hq e => by have := (H3.out.lt q e).1; omega
      rw [← hW3]
      exact ((H3.out.setCell _ _ (hne _ (by simp only; omega))).setCell _ _ (hne _ (by simp only; omega))).setCell _ _ (hne _ (by simp only; omega))
    have hK3 : W3.heap[D]? = some (.deferred (some [])) := by
      rw [← hW3, Below.heap_setCell _ _ _ _ (by simp only; omega), Below.heap_setCell _ _ _ _ (by simp only; omega), Below.heap_setCell _ _ _ _ (by simp only; omega)]
      exact HK.out
    have hB3 : Below s w W3 := by
      rw [← hW3]
      exact ((H4.out.setCell (by simp) _).setCell (by simp) _).setCell (by simp only; omega) _
    rw [hW3]
    have hg := grownBy_putObj' W3 D (.deferred none)
    have hD3 := (Array.getElem?_eq_some_iff.1 hK3).1
    have hsame : ∀ q, q < s + 5 → (W3.putObj D (.deferred none)).heap[q]? = W3.heap[q]? := fun q hq => World.putObj_heap_other (by omega)
    refine ⟨by simp, .inl ⟨_, _, rfl, run_takeDeferred hK3, ?_⟩⟩
    refine ⟨_, results_cell3 rfl rfl rfl rfl (load_of Tryd.isAgg22 ((World.cell?_of_block (a := ⟨s, 0, none⟩) (hsame s (by omega))).trans g0)) (load_of Tryd.isAgg3 ((World.cell?_of_block (a := ⟨s + 1, 0, none⟩) (hsame _ (by simp only; omega))).trans g1)) (load_of Tryd.isAgg24 ((World.cell?_of_block (a := ⟨s + 1 + 1, 0, none⟩) (hsame _ (by simp only; omega))).trans g2)), _, rl, 0, 0, rfl, HP.out.symm, ?_, ?_⟩
    · refine (hrow.of_block fun q hq => World.putObj_heap_other fun e => ?_).at_
      obtain ⟨o, ho, hc⟩ := own_block hrow hq
      rw [e, hK3] at ho
      cases ho; cases hc
    · rw [hs]
      exact hB3.grown hg (by omega) fun q e => by cases e; omega
  case stop =>
    rintro D pre W hD ⟨rest, hrest⟩ ⟨lv, rl, k, h1, hk, h2, h4, h5⟩ hK
    have hP : parseP text.data.toList = ([], (rl.length : Int), k) := by
      unfold parseP
      rw [hrest, run_stop _ _ _ (by rw [h1]; exact hk), h1]
      simp only
      rw [if_neg hk]
    refine wpIn_ret ?_
    have hPB := belowK_b (w := W0) (Nat.le_refl _) W D _ (.deferred none) hD hK rfl rfl
    have hV' := h2.keep (W' := W.putObj D (.deferred none)) (fun q hq => hPB.block q (by omega))
    refine ⟨by simp, .inl ⟨_, _, rfl, run_takeDeferred hK, ?_⟩⟩
    exact ⟨_, results_cell3 rfl rfl rfl rfl (load_of Tryd.isAgg22 hV'.c0) (load_of Tryd.isAgg3 hV'.c1) (load_of Tryd.isAgg24 hV'.c2), _, [], _, _, rfl, hP.symm, (RowsK.Own.nil encR _ 0 28).at_, by rw [hs]; exact h4.trans (hPB.mono (by omega))⟩
end Go.Proofs.YteadmakhcpjpnaaDoor.RouteC
