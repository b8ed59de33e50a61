/-
  The reference's pool: how it lies; drop.
  Conditions: where its blocks lie.
-/
import Derived.Test.YtcdhjbeeehjpiaaDoorPool
import Derived.Deep.QuietTactic
import Derived.BigQuiet
import Derived.IntWalk
namespace Go.Proofs.YtcdhjbeeehjpiaaDoor.PoolR
open Go.RowKit MapsL ModL RowsK RowsM
set_option linter.unusedSimpArgs false
set_option linter.unusedVariables false

/-- A link of the reference. -/
structure RL where
  id : Int
  to : ByteArray
  busy : Bool
  at_ : Int
  turn : Int
instance : Inhabited RL := ⟨⟨0, ⟨#[]⟩, false, 0, 0⟩⟩
def encR : Enc RL := ⟨5, fun x => [.int .i64 x.id, .string x.to, .bool x.busy, .int .i64 x.at_, .int .i64 x.turn], fun _ => rfl, fun x v hv => by simp at hv; rcases hv with rfl | rfl | rfl | rfl | rfl <;> rfl, by decide⟩
theorem elemR : Elem Tryd.prog 41 53 encR.k 48 := Elem.of (z := .agg #[.int .i64 0, .string ⟨#[]⟩, .bool false, .int .i64 0, .int .i64 0]) Tryd.underlying41 (by kernel_rfl) rfl (by decide)
/-- The reference's pool in block q. -/
structure RefO (w : World) (q : Nat) (many last now turn : Int) (v : Value) (l : List RL) : Prop where
  c0 : w.cell? ⟨q, 0, none⟩ = some (.int .i64 many)
  c1 : w.cell? ⟨q, 1, none⟩ = some (.int .i64 last)
  c2 : w.cell? ⟨q, 2, none⟩ = some (.int .i64 now)
  c3 : w.cell? ⟨q, 3, none⟩ = some (.int .i64 turn)
  c4 : w.cell? ⟨q, 4, none⟩ = some v
  thaw : ∀ j, w.frozen? ⟨q, j, none⟩ = false
  own : RowsK.Own encR w (q + 1) 53 v l
section
variable {w w' : World} {q : Nat} {many last now turn : Int} {v v2 : Value} {l l2 : List RL}
theorem RefO.lt (h : RefO w q many last now turn v l) : q < w.heap.size := block_lt_of_cell h.c0
theorem RefO.of_blocks (h : RefO w q many last now turn v l) (hb : w'.heap[q]? = w.heap[q]?) (hv : ∀ k, v.ownBlock = some k → w'.heap[k]? = w.heap[k]?) : RefO w' q many last now turn v l :=
  ⟨(World.cell?_of_block (a := ⟨q, 0, none⟩) hb).trans h.c0, (World.cell?_of_block (a := ⟨q, 1, none⟩) hb).trans h.c1, (World.cell?_of_block (a := ⟨q, 2, none⟩) hb).trans h.c2, (World.cell?_of_block (a := ⟨q, 3, none⟩) hb).trans h.c3, (World.cell?_of_block (a := ⟨q, 4, none⟩) hb).trans h.c4, fun j => (World.frozen?_of_block (a := ⟨q, j, none⟩) hb).trans (h.thaw j), h.own.of_block hv⟩
theorem RefO.below (h : RefO w q many last now turn v l) (hB : Below w.heap.size w w') : RefO w' q many last now turn v l := h.of_blocks (hB.block _ h.lt) (fun k hk => hB.block k (h.own.lt k hk).2)
theorem RefO.drew (h : RefO w q many last now turn v l) : RefO w.drew q many last now turn v l := h.of_blocks rfl (fun _ _ => rfl)
theorem set_ne {w : World} {q i j : Nat} {u : Value} (h : j ≠ i) : (w.setCell ⟨q, i, none⟩ u).cell? ⟨q, j, none⟩ = w.cell? ⟨q, j, none⟩ := World.cell?_setCell_other w ⟨q, i, none⟩ ⟨q, j, none⟩ u (fun e => h (congrArg Addr.off e).symm)
theorem RefO.setLast (h : RefO w q many last now turn v l) (x : Int) : RefO (w.setCell ⟨q, 1, none⟩ (.int .i64 x)) q many x now turn v l :=
  ⟨(set_ne (by decide)).trans h.c0, World.cell?_setCell_same _ _ _ h.c1, (set_ne (by decide)).trans h.c2, (set_ne (by decide)).trans h.c3, (set_ne (by decide)).trans h.c4, fun j => by rw [World.frozen?_setCell]; exact h.thaw j, h.own.setCell _ _ (fun e => by have := (h.own.lt q e).1; omega)⟩
theorem RefO.setNow (h : RefO w q many last now turn v l) (x : Int) : RefO (w.setCell ⟨q, 2, none⟩ (.int .i64 x)) q many last x turn v l :=
  ⟨(set_ne (by decide)).trans h.c0, (set_ne (by decide)).trans h.c1, World.cell?_setCell_same _ _ _ h.c2, (set_ne (by decide)).trans h.c3, (set_ne (by decide)).trans h.c4, fun j => by rw [World.frozen?_setCell]; exact h.thaw j, h.own.setCell _ _ (fun e => by have := (h.own.lt q e).1; omega)⟩
theorem RefO.setTurn (h : RefO w q many last now turn v l) (x : Int) : RefO (w.setCell ⟨q, 3, none⟩ (.int .i64 x)) q many last now x v l :=
  ⟨(set_ne (by decide)).trans h.c0, (set_ne (by decide)).trans h.c1, (set_ne (by decide)).trans h.c2, World.cell?_setCell_same _ _ _ h.c3, (set_ne (by decide)).trans h.c4, fun j => by rw [World.frozen?_setCell]; exact h.thaw j, h.own.setCell _ _ (fun e => by have := (h.own.lt q e).1; omega)⟩
theorem RefO.row (h : RefO w q many last now turn v l) (hb : w'.heap[q]? = w.heap[q]?) (ho : RowsK.Own encR w' (q + 1) 53 v2 l2) : RefO (w'.setCell ⟨q, 4, none⟩ v2) q many last now turn v2 l2 := by
  have hc : ∀ j, w'.cell? ⟨q, j, none⟩ = w.cell? ⟨q, j, none⟩ := fun j => World.cell?_of_block (a := ⟨q, j, none⟩) hb
  refine ⟨((set_ne (by decide)).trans (hc 0)).trans h.c0, ((set_ne (by decide)).trans (hc 1)).trans h.c1, ((set_ne (by decide)).trans (hc 2)).trans h.c2, ((set_ne (by decide)).trans (hc 3)).trans h.c3, World.cell?_setCell_same _ _ _ ((hc 4).trans h.c4), fun j => ?_, ho.setCell _ _ (fun e => by have := (ho.lt q e).1; omega)⟩
  rw [World.frozen?_setCell]
  exact (World.frozen?_of_block (a := ⟨q, j, none⟩) hb).trans (h.thaw j)
/-- One cell of a link is stored. -/
theorem RefO.cell {g n c : Nat} (h : RefO w q many last now turn (.slice (some ⟨g, 0, none⟩) n c) l) (i j : Nat) (hi : i < l.length) (hj : j < 5) (u : Value) (y : RL) (hy : encR.enc y = (encR.enc l[i]).set j u) :
    RefO (w.setCell ⟨g, i * 5 + j, none⟩ u) q many last now turn (.slice (some ⟨g, 0, none⟩) n c) (l.set i y) := by
  have hg := h.own.lt g rfl
  have hb : (w.setCell ⟨g, i * 5 + j, none⟩ u).heap[q]? = w.heap[q]? := Below.heap_setCell _ _ _ _ (by simp; omega)
  exact ⟨(World.cell?_of_block (a := ⟨q, 0, none⟩) hb).trans h.c0, (World.cell?_of_block (a := ⟨q, 1, none⟩) hb).trans h.c1, (World.cell?_of_block (a := ⟨q, 2, none⟩) hb).trans h.c2, (World.cell?_of_block (a := ⟨q, 3, none⟩) hb).trans h.c3, (World.cell?_of_block (a := ⟨q, 4, none⟩) hb).trans h.c4, fun k => (World.frozen?_of_block (a := ⟨q, k, none⟩) hb).trans (h.thaw k), own_store h.own i j hi hj u y hy⟩
/-- A link's cells. -/
theorem RefO.entry {i : Nat} (h : RefO w q many last now turn v l) (hi : i < l.length) : ∃ g c, v = .slice (some ⟨g, 0, none⟩) l.length c ∧ q + 1 ≤ g ∧ g < w.heap.size ∧ l.length ≤ c ∧ c ≤ 9223372036854775807 ∧
    w.cell? ⟨g, i * 5, none⟩ = some (.int .i64 (l.getD i default).id) ∧ w.cell? ⟨g, i * 5 + 1, none⟩ = some (.string (l.getD i default).to) ∧ w.cell? ⟨g, i * 5 + 2, none⟩ = some (.bool (l.getD i default).busy) ∧ w.cell? ⟨g, i * 5 + 3, none⟩ = some (.int .i64 (l.getD i default).at_) ∧ w.cell? ⟨g, i * 5 + 4, none⟩ = some (.int .i64 (l.getD i default).turn) := by
  obtain ⟨g, c, rfl, h1, h2, h3, h4, hc⟩ := h.own.slice1 l.length rfl (by omega)
  have hx : l.getD i default = l[i] := by rw [List.getD_eq_getElem?_getD, List.getElem?_eq_getElem hi]; rfl
  rw [hx]
  exact ⟨g, c, rfl, h3, h4, h1, h2, hc i hi 0 (by decide), hc i hi 1 (by decide), hc i hi 2 (by decide), hc i hi 3 (by decide), hc i hi 4 (by decide)⟩
end
theorem at_dropR {w : World} {b g n cap : Nat} {e : TypeId} {xs : List RL} (h : RowsK.Own encR w b e (.slice (some ⟨g, 0, none⟩) n cap) xs) (m : Nat) (hm : m ≤ xs.length) : RowsK.At encR w (.slice (some ⟨g, m * 5, none⟩) (n - m) (cap - m)) (xs.drop m) := by
  obtain ⟨a, c, he, h1, h2, _, _⟩ := h.slice
  simp only [Value.slice.injEq] at he
  obtain ⟨_, rfl, rfl⟩ := he
  refine ⟨_, _, by rw [List.length_drop], by rw [List.length_drop]; omega, by omega, by simp, fun i hi => ?_⟩
  rw [List.length_drop] at hi
  obtain ⟨g', cap', e2, _, _, _, hg, hc⟩ := h.slice1 xs.length rfl (by omega)
  simp only [Value.slice.injEq, Option.some.injEq, Addr.mk.injEq, and_true, true_and] at e2
  obtain ⟨rfl, rfl⟩ := e2
  refine ⟨g, m * 5, rfl, hg, fun j hj => ?_⟩
  have := hc (m + i) (by omega) j hj
  rw [show m * 5 + (i * encR.k + j) = (m + i) * encR.k + j by show m * 5 + (i * 5 + j) = (m + i) * 5 + j; omega, this, List.getElem_drop]
theorem at_emptyR {w : World} (g o : Nat) : RowsK.At encR w (.slice (some ⟨g, o, none⟩) 0 0) ([] : List RL) := ⟨_, 0, rfl, by simp, by simp, by simp, fun i hi => absurd hi (by simp)⟩
set_option maxRecDepth 100000 in
set_option maxHeartbeats 8000000 in
theorem drop_any {w : World} {q : Nat} {many last now turn : Int} {v : Value} {l : List RL} (h : RefO w q many last now turn v l) (n : Nat) (hn : n < l.length) (hlen : l.length ≤ 1000000) :
    Calls Tryd.prog 34 #[.pointer (some ⟨q, 0, none⟩), .int .i64 (n : Nat)] w fun e w' => ∃ v', e = .returned (.tuple #[]) ∧ RefO w' q many last now turn v' (l.take n ++ l.drop (n + 1)) ∧ Mod (fun b => b = q) w w' ∧ (v'.ownBlock = none ∨ ∃ g, v'.ownBlock = some g ∧ w.heap.size ≤ g) := by
  have HR := Lib.hid h
  have hc4 := h.c4
  have hlt := h.lt
  obtain ⟨g, cap, rfl, hg, hg2, hcap1, hcap2, _⟩ := h.entry hn
  have HT := Lib.hid (h.own.cut n (by omega) (by simp)).at_
  have HD := Lib.hid (at_dropR h.own (n + 1) (by omega))
  obtain ⟨L, hL⟩ : ∃ L, l.length = L := ⟨_, rfl⟩
  rw [hL] at hn hc4 hcap1 hlen HD
  have HL := Lib.hid hL
  have hnL : (n : Int) < (L : Int) := by omega
  have hn0 : (0 : Int) ≤ (n : Int) := by omega
  have hnc : (n : Int) ≤ (cap : Int) := by omega
  have hnc2 : (n : Int) + 1 ≤ (L : Int) := by omega
  have hn02 : (0 : Int) ≤ (n : Int) + 1 := by omega
  have hlc : (L : Int) ≤ (cap : Int) := by omega
  have HAP1 : Hid (([] : List RL).length + (l.take n).length < 274877906944) := (by show _ < _; simp; omega)
  have HAP2 : Hid ((([] : List RL) ++ l.take n).length + (l.drop (n + 1)).length < 274877906944) := (by show _ < _; simp; omega)
  clear h hL
  by_cases hce : cap = n + 1
  · subst hce
    have HE : Hid (RowsK.At encR w (.slice (some ⟨g, 0, none⟩) 0 0) (l.drop (n + 1))) := (by
      show RowsK.At _ _ _ _
      rw [List.drop_of_length_le (by rw [HL.out]; omega)]
      exact at_emptyR _ _)
    go_enter Tryd.func34, Tryd.ntmps34
    go_wp2_with (first
      | (at_builtin; refine RowsK.wpList_append elemR rfl _ _ rfl (q + 1) _ rfl (Own.nil encR _ _ _) _ _ rfl HT.out HAP1.out (by omega) ?_; intro v1 w1 ho1 hB1 hg1 hat1; have hg1' : w.grownBy w1 none := hg1; have hat1' : v1.ownBlock = none ∨ v1.ownBlock = some w.heap.size := hat1; have hBB := (Below.refl w.heap.size w).grown hg1' (Nat.le_refl _) (fun k hk => by cases hk); obtain ⟨a1, n1, c1, rfl⟩ := own_form ho1; have HO1 := Lib.hid ho1; have HD1 := Lib.hid (HE.out.old hBB); have HR1 := Lib.hid (HR.out.below hBB); have hc1 := HR1.out.c4; rw [HL.out] at hc1; have hlt1 := HR1.out.lt; have HA1 := Lib.hid hat1'; clear hg1 hg1' hat1 hat1' ho1)
      | (at_builtin; refine RowsK.wpList_append elemR rfl _ _ rfl (q + 1) _ rfl HO1.out _ _ rfl HD1.out HAP2.out (by omega) ?_; intro v2 w2 ho2 hB2 hg2' hat2; obtain ⟨a2, n2, c2, rfl⟩ := own_form ho2; have hc2 := (hB2.cell (p := ⟨q, 4, none⟩) (Nat.lt_succ_self _)).trans hc1; have hf2 := (hB2.frozen (p := ⟨q, 4, none⟩) (Nat.lt_succ_self _)).trans (HR1.out.thaw 4); have HO2 := Lib.hid ho2; have HG2 := Lib.hid hg2'; have HA2 := Lib.hid hat2; have HQ2 := Lib.hid (hB2.block q (Nat.lt_succ_self _)); clear hg2' hat2 ho2))
    go_end0
    have hA1 := HA1.out
    have hA2 : (Value.slice a2 n2 c2).ownBlock = (Value.slice a1 n1 c1).ownBlock ∨ (Value.slice a2 n2 c2).ownBlock = some w1.heap.size := HA2.out
    have hG2 : w1.grownBy w2 (Value.slice a1 n1 c1).ownBlock := HG2.out
    have hsz := hBB.size
    refine ⟨_, rfl, HR1.out.row HQ2.out HO2.out, ?_, ?_⟩
    · refine Mod.setCell (S := fun b => b = q) ?_ (fun _ => rfl) _
      refine Mod.grown (Mod.ofBelow hBB (fun k hk hk2 => by omega)) hG2 (fun k hk hk2 => ?_)
      rcases hA1 with h1 | h1
      · rw [h1] at hk; cases hk
      · rw [h1] at hk; have := Option.some.inj hk; omega
    · rcases hA2 with h2 | h2
      · rcases hA1 with h1 | h1
        · exact .inl (h2.trans h1)
        · exact .inr ⟨_, h2.trans h1, Nat.le_refl _⟩
      · exact .inr ⟨_, h2, hsz⟩
  · have hcl : ¬ cap ≤ n + 1 := by omega
    go_enter Tryd.func34, Tryd.ntmps34
    go_wp2_with (first
      | (at_builtin; refine RowsK.wpList_append elemR rfl _ _ rfl (q + 1) _ rfl (Own.nil encR _ _ _) _ _ rfl HT.out HAP1.out (by omega) ?_; intro v1 w1 ho1 hB1 hg1 hat1; have hg1' : w.grownBy w1 none := hg1; have hat1' : v1.ownBlock = none ∨ v1.ownBlock = some w.heap.size := hat1; have hBB := (Below.refl w.heap.size w).grown hg1' (Nat.le_refl _) (fun k hk => by cases hk); obtain ⟨a1, n1, c1, rfl⟩ := own_form ho1; have HO1 := Lib.hid ho1; have HD1 := Lib.hid (HD.out.old hBB); have HR1 := Lib.hid (HR.out.below hBB); have hc1 := HR1.out.c4; rw [HL.out] at hc1; have hlt1 := HR1.out.lt; have HA1 := Lib.hid hat1'; clear hg1 hg1' hat1 hat1' ho1)
      | (at_builtin; refine RowsK.wpList_append elemR rfl _ _ rfl (q + 1) _ rfl HO1.out _ _ rfl HD1.out HAP2.out (by omega) ?_; intro v2 w2 ho2 hB2 hg2' hat2; obtain ⟨a2, n2, c2, rfl⟩ := own_form ho2; have hc2 := (hB2.cell (p := ⟨q, 4, none⟩) (Nat.lt_succ_self _)).trans hc1; have hf2 := (hB2.frozen (p := ⟨q, 4, none⟩) (Nat.lt_succ_self _)).trans (HR1.out.thaw 4); have HO2 := Lib.hid ho2; have HG2 := Lib.hid hg2'; have HA2 := Lib.hid hat2; have HQ2 := Lib.hid (hB2.block q (Nat.lt_succ_self _)); clear hg2' hat2 ho2))
    go_end0
    have hA1 := HA1.out
    have hA2 : (Value.slice a2 n2 c2).ownBlock = (Value.slice a1 n1 c1).ownBlock ∨ (Value.slice a2 n2 c2).ownBlock = some w1.heap.size := HA2.out
    have hG2 : w1.grownBy w2 (Value.slice a1 n1 c1).ownBlock := HG2.out
    have hsz := hBB.size
    refine ⟨_, rfl, HR1.out.row HQ2.out HO2.out, ?_, ?_⟩
    · refine Mod.setCell (S := fun b => b = q) ?_ (fun _ => rfl) _
      refine Mod.grown (Mod.ofBelow hBB (fun k hk hk2 => by omega)) hG2 (fun k hk hk2 => ?_)
      rcases hA1 with h1 | h1
      · rw [h1] at hk; cases hk
      · rw [h1] at hk; have := Option.some.inj hk; omega
    · rcases hA2 with h2 | h2
      · rcases hA1 with h1 | h1
        · exact .inl (h2.trans h1)
        · exact .inr ⟨_, h2.trans h1, Nat.le_refl _⟩
      · exact .inr ⟨_, h2, hsz⟩
end Go.Proofs.YtcdhjbeeehjpiaaDoor.PoolR
