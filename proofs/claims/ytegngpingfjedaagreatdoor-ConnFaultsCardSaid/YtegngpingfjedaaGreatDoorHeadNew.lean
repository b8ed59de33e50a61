/-
  head.New over this seat's translation, exactly; what a Coder is.
  Conditions: none.
-/
import Derived.Test.YtegngpingfjedaaGreatDoorTableOwn
import Derived.IntWalk
import Derived.Lib.Hide
namespace Go.Proofs.YtegngpingfjedaaGreatDoor.HeadF
open Go.RowKit RowsK FieldRows ModL TableC
set_option linter.unusedVariables false
set_option linter.unusedSimpArgs false

/-- A Coder at block g, its tables at bo and bi; their fields' blocks Oo and Oi. -/
structure IsCoder (w : World) (g bo bi : Nat) (max : Int) (Oo Oi : Option Nat) (lo li : List Fld) (so si : Int) (bad : Bool) : Prop where
  c0 : w.cell? ⟨g, 0, none⟩ = some (.pointer (some ⟨bo, 0, none⟩))
  c1 : w.cell? ⟨g, 1, none⟩ = some (.pointer (some ⟨bi, 0, none⟩))
  c2 : w.cell? ⟨g, 2, none⟩ = some (.int .i64 max)
  c3 : w.cell? ⟨g, 3, none⟩ = some (.slice none 0 0)
  c4 : w.cell? ⟨g, 4, none⟩ = some (.bool bad)
  f4 : w.frozen? ⟨g, 4, none⟩ = false
  out : IsTable w bo bo max lo so
  inn : IsTable w bi bi max li si
  oo : OwnAt w bo Oo
  oi : OwnAt w bi Oi
  ho : ∀ k, Oo = some k → k ≠ g ∧ k ≠ bi ∧ k < w.heap.size
  hi : ∀ k, Oi = some k → k ≠ g ∧ k ≠ bo ∧ k < w.heap.size
  hoi : ∀ k, Oo = some k → Oi ≠ some k
  ne : g ≠ bo ∧ g ≠ bi ∧ bo ≠ bi
theorem hnew_bad (m : Int) (w : World) (h : m < 0 ∨ 4096 < m) : Calls Tryz.prog 9 #[.int .i64 m] w fun e w' => e = .returned (.tuple #[.pointer none, .iface 83 (.int .i64 1)]) ∧ w = w' := by
  have HN := Lib.hid (new_bad m w h)
  clear h
  go_enter Tryz.func9, Tryz.ntmps9
  go_wp2_with (go_at_call 36; (with_reducible refine HN.out.mono ?_); rintro e w1 ⟨rfl, rfl⟩)
  go_ret2
  exact ⟨rfl, rfl⟩
set_option maxRecDepth 100000 in
set_option maxHeartbeats 8000000 in
theorem hnew_ok (m : Int) (w : World) (h : 0 ≤ m ∧ m ≤ 4096) : Calls Tryz.prog 9 #[.int .i64 m] w fun e w' => ∃ g bo bi Oo Oi, e = .returned (.tuple #[.pointer (some ⟨g, 0, none⟩), .nilIface]) ∧ IsCoder w' g bo bi m Oo Oi [] [] 0 0 false ∧ w.heap.size ≤ g ∧ w.heap.size ≤ bo ∧ w.heap.size ≤ bi ∧ (∀ k, Oo = some k → w.heap.size ≤ k) ∧ (∀ k, Oi = some k → w.heap.size ≤ k) ∧ Below w.heap.size w w' := by
  have HN := Lib.hid (fun W => new_ok m W h)
  clear h
  go_enter Tryz.func9, Tryz.ntmps9
  go_wp2_with (first
    | (go_at_call 36; (with_reducible refine (HN.out w).mono ?_); rintro e w1 ⟨rfl, hT1, hB1⟩; have HT1 := Lib.hid hT1; have HB1 := Lib.hid hB1; clear hT1 hB1)
    | (go_at_call 36; (with_reducible refine (HN.out _).mono ?_); rintro e w2 ⟨rfl, hT2, hB2⟩; have HT2 := Lib.hid hT2; have HB2 := Lib.hid hB2; clear hT2 hB2)
    | fail)
  go_ret2
  have l1 : w.heap.size < w1.heap.size := HT1.out.lt
  have l2 : w1.heap.size < w2.heap.size := HT2.out.lt
  obtain ⟨⟨va, a0, aO, aN⟩, -⟩ := id HT1.out
  obtain ⟨⟨vb, b0, bO, bN⟩, -⟩ := id HT2.out
  have hB3 := (Below.refl w2.heap.size w2).alloc (Nat.le_refl _) (.cells #[Value.pointer (some ⟨w.heap.size, 0, none⟩), Value.pointer (some ⟨w1.heap.size, 0, none⟩), Value.int IntKind.i64 m, Value.slice none 0 0, Value.bool false] 81)
  have a1 := aO.lt
  have b1 := bO.lt
  refine ⟨w2.heap.size, w.heap.size, w1.heap.size, va.ownBlock, vb.ownBlock, rfl, ⟨by simp, by simp, by simp, by simp, by simp, by simp, (HT1.out.old HB2.out).old hB3, HT2.out.old hB3, ⟨va, (hB3.cell (p := ⟨w.heap.size, 0, none⟩) (show w.heap.size < w2.heap.size by omega)).trans ((HB2.out.cell (p := ⟨w.heap.size, 0, none⟩) l1).trans a0), rfl⟩, ⟨vb, (hB3.cell (p := ⟨w1.heap.size, 0, none⟩) l2).trans b0, rfl⟩, ?_, ?_, ?_, ⟨by omega, by omega, by omega⟩⟩, by omega, by omega, by omega, ?_, ?_, ?_⟩
  · intro k hk
    have := a1 k hk
    have := hB3.size
    exact ⟨by omega, by omega, by omega⟩
  · intro k hk
    have := b1 k hk
    have := hB3.size
    exact ⟨by omega, by omega, by omega⟩
  · intro k hk e
    have := a1 k hk
    have := b1 k e
    omega
  · intro k hk
    have := a1 k hk
    omega
  · intro k hk
    have := b1 k hk
    omega
  · exact (HB1.out.trans (HB2.out.mono (by omega))).trans (hB3.mono (by omega))
theorem IsCoder.old {w w' : World} {g bo bi : Nat} {max so si : Int} {Oo Oi : Option Nat} {lo li : List Fld} {bad : Bool} (h : IsCoder w g bo bi max Oo Oi lo li so si bad) (hB : Below w.heap.size w w') : IsCoder w' g bo bi max Oo Oi lo li so si bad := by
  have hg := block_lt_of_cell h.c0
  obtain ⟨va, a0, a1⟩ := h.oo
  obtain ⟨vb, b0, b1⟩ := h.oi
  have hs := hB.size
  exact ⟨(hB.cell (p := ⟨g, 0, none⟩) hg).trans h.c0, (hB.cell (p := ⟨g, 1, none⟩) hg).trans h.c1, (hB.cell (p := ⟨g, 2, none⟩) hg).trans h.c2, (hB.cell (p := ⟨g, 3, none⟩) hg).trans h.c3, (hB.cell (p := ⟨g, 4, none⟩) hg).trans h.c4, (hB.frozen (p := ⟨g, 4, none⟩) hg).trans h.f4, h.out.old hB, h.inn.old hB, ⟨va, (hB.cell (p := ⟨bo, 0, none⟩) h.out.lt).trans a0, a1⟩, ⟨vb, (hB.cell (p := ⟨bi, 0, none⟩) h.inn.lt).trans b0, b1⟩, fun k hk => ⟨(h.ho k hk).1, (h.ho k hk).2.1, by have := (h.ho k hk).2.2; omega⟩, fun k hk => ⟨(h.hi k hk).1, (h.hi k hk).2.1, by have := (h.hi k hk).2.2; omega⟩, h.hoi, h.ne⟩
end Go.Proofs.YtegngpingfjedaaGreatDoor.HeadF
