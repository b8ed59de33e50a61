/-
  Contracts of package pool over this seat's translation: Tick.
  Conditions: where the pool lies; the bounds.
-/
import Derived.Test.YtcdhjbeeehjpiaaDoorLinkDelF
import Derived.Test.YtcdhjbeeehjpiaaDoorPoolTake
import Derived.Test.YtcdhjbeeehjpiaaDoorRows1
import Derived.Test.YtcdhjbeeehjpiaaDoorSortI
import Derived.Lib.SlKeysI
import Derived.Sort.OwnSorted
namespace Go.Proofs.YtcdhjbeeehjpiaaDoor.PoolC
open Go.RowKit Go.Shelf MapsL ModL RowsK RowsM Back
set_option linter.unusedSimpArgs false
set_option linter.unusedVariables false

theorem elemI : RowsL.Elem Tryd.prog 31 3 (.int .i64 0) 8 := ⟨Tryd.underlying31, by kernel_rfl, rfl, by decide⟩
/-- It is old. -/
def goneB (now old : Int) (x : Link) : Bool := decide (old < now - x.at_)
def ids (l : List Link) : List Value := l.map fun x => .int .i64 x.id
/-- Between two tests. -/
structure TickJ (w1 : World) (gr q : Nat) (now old : Int) (L : List Link) (i : Nat) (W : World) : Prop where
  m : Mod (fun k => k = gr ∨ q ≤ k) w1 W
  lt : q < W.heap.size
  g : ∃ gv, W.cell? ⟨q, 0, none⟩ = some gv ∧ W.frozen? ⟨q, 0, none⟩ = false ∧ RowsL.Own W (q + 1) 3 gv (ids ((L.take i).filter (goneB now old)))
/-- What the test may write. -/
def TickT (q : Nat) (W : World) (k : Nat) : Prop := k = q ∨ ∃ v, W.cell? ⟨q, 0, none⟩ = some v ∧ v.ownBlock = some k
theorem take_snocL {l : List Link} {i : Nat} (hi : i < l.length) : l.take (i + 1) = l.take i ++ [l.getD i default] := by
  rw [List.take_succ_eq_append_getElem hi, List.getD_eq_getElem?_getD, List.getElem?_eq_getElem hi]; rfl
theorem ids_len (l : List Link) : (ids l).length = l.length := by simp [ids]
set_option maxRecDepth 100000 in
set_option maxHeartbeats 4000000 in
theorem clo_any {w1 : World} {s gr q : Nat} {now old : Int} {L : List Link} {i : Nat} {W : World} (h : TickJ w1 gr q now old L i W) (hi : i < L.length) (hL : L.length < 1000000) (hsq : s + 1 < q) (hgs : gr < s) (hw1 : s + 1 < w1.heap.size) (cn1 : w1.cell? ⟨s, 0, none⟩ = some (.int .i64 now)) (co1 : w1.cell? ⟨s + 1, 0, none⟩ = some (.int .i64 old))
    (hb : (0 ≤ now ∧ now ≤ 1000000) ∧ (0 ≤ old ∧ old ≤ 1000000)) (hx : 0 ≤ (L.getD i default).at_ ∧ (L.getD i default).at_ ≤ 1000000) :
    Calls Tryd.prog 31 (#[.agg (encL.enc (L.getD i default)).toArray] ++ #[.pointer (some ⟨s, 0, none⟩), .pointer (some ⟨s + 1, 0, none⟩), .pointer (some ⟨q, 0, none⟩)]) W fun e w' => e = .returned (.bool (goneB now old (L.getD i default))) ∧ TickJ w1 gr q now old L (i + 1) w' ∧ Mod (TickT q W) W w' := by
  obtain ⟨hm, hlt, gv, cg, fg, hO⟩ := h
  have cn := (hm.cell (p := ⟨s, 0, none⟩) (by simp; omega) (by simp; omega)).trans cn1
  have co := (hm.cell (p := ⟨s + 1, 0, none⟩) hw1 (by simp; omega)).trans co1
  clear cn1 co1
  have hst := take_snocL hi
  obtain ⟨⟨xi, xa, xt⟩, hxx⟩ : ∃ y, L.getD i default = y := ⟨_, rfl⟩
  rw [hxx] at hst hx ⊢
  simp only at hx
  obtain ⟨l0, hl0⟩ : ∃ l0, (L.take i).filter (goneB now old) = l0 := ⟨_, rfl⟩
  rw [hl0] at hO
  have hlen : l0.length < 1000000 := by
    have := List.length_filter_le (goneB now old) (L.take i)
    rw [hl0] at this
    have h2 : (L.take i).length ≤ L.length := by rw [List.length_take]; omega
    omega
  have hstep : (L.take (i + 1)).filter (goneB now old) = l0 ++ (if goneB now old ⟨xi, xa, xt⟩ then [⟨xi, xa, xt⟩] else []) := by
    rw [hst, List.filter_append, hl0]
    cases e : goneB now old ⟨xi, xa, xt⟩ <;> simp [e]
  have HST := Lib.hid hstep
  have HO := Lib.hid hO
  have HM := Lib.hid hm
  have hgb : ∀ k, gv.ownBlock = some k → q + 1 ≤ k ∧ k < W.heap.size := fun k hk => RowsL.Own.lt hO k hk
  have hsz1 : s + 1 < W.heap.size := by omega
  have hsz0 : s < W.heap.size := by omega
  clear hst hxx hl0 hstep hO hm
  obtain ⟨⟨n1, n2⟩, o1, o2⟩ := hb
  obtain ⟨a1, a2⟩ := hx
  show Calls Tryd.prog 31 #[.agg #[.int .i64 xi, .int .i64 xa, .string xt], .pointer (some ⟨s, 0, none⟩), .pointer (some ⟨s + 1, 0, none⟩), .pointer (some ⟨q, 0, none⟩)] W _
  have hcc := Lib.hid (show ∀ (u : Value) k j, k < W.heap.size → (W.alloc (.cells #[.int .i64 xi, .int .i64 xa, .string xt] 82)).cell? ⟨k, j, none⟩ = W.cell? ⟨k, j, none⟩ from fun _ k j hk => World.cell?_alloc_lt _ _ _ hk)
  cases hg : goneB now old ⟨xi, xa, xt⟩ with
  | false =>
    have t1 : ¬ old < now - xa := by simpa [goneB] using hg
    rw [hg] at HST
    clear hg
    go_enter Tryd.func31, Tryd.ntmps31
    go_wp2_with fail
    go_ret
    refine ⟨rfl, ⟨HM.out.alloc _, by simp; omega, gv, (hcc.out undef _ _ hlt).trans cg, ?_, ?_⟩, (Mod.refl _ W).alloc _⟩
    · rw [frozen_alloc _ _ _ _ hlt]; exact fg
    · rw [HST.out, if_neg (by simp), List.append_nil]; exact HO.out.alloc _
  | true =>
    have t1 : old < now - xa := by simpa [goneB] using hg
    rw [hg] at HST
    clear hg
    obtain ⟨ga, gc, e, _⟩ := HO.out.slice
    rw [ids_len] at e
    subst e
    have hl1 : (ids l0).length + 1 < 1000001 := by rw [ids_len]; omega
    have HL1 := Lib.hid hl1
    have hqw : q + 1 ≤ W.heap.size := by omega
    have c2 := (hcc.out undef q 0 hlt).trans cg
    have f2 := (frozen_alloc W (.cells #[.int .i64 xi, .int .i64 xa, .string xt] 82) q 0 hlt).trans fg
    have HGB := Lib.hid hgb
    clear hgb hl1
    have HQ : Hid (∀ w2, ((W.alloc (.cells #[.int .i64 xi, .int .i64 xa, .string xt] 82)).alloc (.cells #[Value.int .i64 xi] 3)).grownBy w2 (Value.slice ga l0.length gc).ownBlock → (∀ k, k < W.heap.size → (Value.slice ga l0.length gc).ownBlock ≠ some k → w2.heap[k]? = W.heap[k]?) ∧ w2.cell? ⟨q, 0, none⟩ = some (.slice ga l0.length gc) ∧ w2.frozen? ⟨q, 0, none⟩ = false ∧ W.heap.size + 2 ≤ w2.heap.size) := fun w2 hg2 => by
      have hb : ∀ k, k < W.heap.size → (Value.slice ga l0.length gc).ownBlock ≠ some k → w2.heap[k]? = W.heap[k]? := fun k hk hne => (hg2.block k (by simp; omega) (fun e => hne e.symm)).trans ((heap_alloc_old _ _ _ (by simp; omega)).trans (heap_alloc_old _ _ _ hk))
      have hq := hb q hlt (fun e => by have := (HGB.out q e).1; omega)
      exact ⟨hb, (World.cell?_of_block (a := ⟨q, 0, none⟩) hq).trans cg, (World.frozen?_of_block (a := ⟨q, 0, none⟩) hq).trans fg, by simpa using hg2.size⟩
    go_enter Tryd.func31, Tryd.ntmps31
    go_wp2_with (at_builtin; refine RowsL.wpList_append1 elemI rfl _ _ rfl (q + 1) _ _ rfl ((HO.out.alloc _).alloc _) (W.heap.size + 1) 1 (.int .i64 xi) rfl (by simp) rfl (by have := HL1.out; omega) (by simp; omega) ?_; intro v2 w2 hown2 hB2 hg2 hat2; obtain ⟨hb2, c22, f22, hs2⟩ := HQ.out w2 hg2; have HB2 := Lib.hid hb2; have HG2 := Lib.hid hg2; have HOWN2 := Lib.hid hown2; obtain ⟨a3, c3, e3, _⟩ := hown2.slice; subst e3; clear hb2 hg2 hB2 hown2)
    go_ret
    have hT : ∀ k, (Value.slice ga l0.length gc).ownBlock = some k → TickT q W k := fun k hk => .inr ⟨_, cg, hk⟩
    have hl3 : (ids l0 ++ [Value.int .i64 xi]).length = (ids l0).length + 1 := by simp
    have hO3 := HOWN2.out
    rw [hl3] at hO3
    have hMW : Mod (TickT q W) W (w2.setCell ⟨q, 0, none⟩ (.slice a3 ((ids l0).length + 1) c3)) := ((((Mod.refl (TickT q W) W).alloc _).alloc _).grown HG2.out (fun k hk _ => hT k hk)).setCell (fun _ => .inl rfl) _
    refine ⟨rfl, ⟨HM.out.andThen hMW (fun k hk hk2 => ?_), by simp; omega, _, World.cell?_setCell_same _ _ _ c22, by rw [World.frozen?_setCell]; exact f22, ?_⟩, hMW⟩
    · rcases hk2 with rfl | ⟨v, hv, ho⟩
      · exact .inr (Nat.le_refl _)
      · rw [cg] at hv
        obtain rfl := Option.some.inj hv
        exact .inr (by have := (HGB.out _ ho).1; omega)
    · rw [HST.out]
      simp only [if_true]
      rw [show ids (l0 ++ [⟨xi, xa, xt⟩]) = ids l0 ++ [Value.int .i64 xi] by simp [ids]]
      exact hO3.setCell _ _ (fun e => by have := (RowsL.Own.lt hO3 _ e).1; simp at this; omega)
theorem IsPool.now {w : World} {b m : Nat} {many last now : Int} {B : List (Int × ByteArray)} {v : Value} {L : List Link} (h : IsPool w b m many last now B v L) (l2 : Int) : IsPool (w.setCell ⟨b, 2, none⟩ (.int .i64 l2)) b m many last l2 B v L := by
  have hlt := h.lt
  have hne : ∀ j, j ≠ 2 → (w.setCell ⟨b, 2, none⟩ (.int .i64 l2)).cell? ⟨b, j, none⟩ = w.cell? ⟨b, j, none⟩ := fun j hj => World.cell?_setCell_other w ⟨b, 2, none⟩ ⟨b, j, none⟩ _ (fun e => hj (congrArg Addr.off e).symm)
  refine ⟨(hne 0 (by decide)).trans h.c0, (hne 1 (by decide)).trans h.c1, World.cell?_setCell_same _ _ _ h.c2, (hne 3 (by decide)).trans h.c3, (hne 4 (by decide)).trans h.c4, fun j => ?_, h.map.setCell _ _ (by show b ≠ m; omega), h.own.setCell _ _ (fun e => by have := (h.own.lt b e).1; omega), h.lt⟩
  rw [World.frozen?_setCell]
  exact h.thaw j
theorem IsPool.row2 {w w2 : World} {b m : Nat} {many last now : Int} {B : List (Int × ByteArray)} {v v2 : Value} {L L2 : List Link} (h : IsPool w b m many last now B v L) (hb : w2.heap[b]? = w.heap[b]?) (hm : w2.heap[m]? = w.heap[m]?) (ho : RowsK.Own encL w2 (b + 1) 82 v2 L2) : IsPool (w2.setCell ⟨b, 4, none⟩ v2) b m many last now B v2 L2 := by
  have hlt := h.lt
  have hc : ∀ j, w2.cell? ⟨b, j, none⟩ = w.cell? ⟨b, j, none⟩ := fun j => World.cell?_of_block (a := ⟨b, j, none⟩) hb
  have hne : ∀ j, j ≠ 4 → (w2.setCell ⟨b, 4, none⟩ v2).cell? ⟨b, j, none⟩ = w.cell? ⟨b, j, none⟩ := fun j hj => (World.cell?_setCell_other w2 ⟨b, 4, none⟩ ⟨b, j, none⟩ v2 (fun e => hj (congrArg Addr.off e).symm)).trans (hc j)
  refine ⟨(hne 0 (by decide)).trans h.c0, (hne 1 (by decide)).trans h.c1, (hne 2 (by decide)).trans h.c2, (hne 3 (by decide)).trans h.c3, World.cell?_setCell_same _ _ _ ((hc 4).trans h.c4), fun j => ?_, (h.map.of_block hm).setCell _ _ (by show b ≠ m; omega), ho.setCell _ _ (fun e => by have := (ho.lt b e).1; omega), h.lt⟩
  rw [World.frozen?_setCell]
  exact (World.frozen?_of_block (a := ⟨b, j, none⟩) hb).trans (h.thaw j)
open Go.Sort Go.Maps in
/-- slices.Sort of ints in a row of the call's own. -/
theorem sort_any {base : Nat} (v : Value) (zs : List Int) (W : World) (hO : RowsL.Own W base 3 v (zs.map (Value.int .i64))) (hl : zs.length < 1000001) :
    Calls Tryd.prog 32 #[v] W fun e w' => e = .returned (.tuple #[]) ∧ RowsL.Own w' base 3 v ((zs.mergeSort fun x y => decide (x ≤ y)).map (Value.int .i64)) ∧ Below base W w' := by
  have hO' : W.ownsRow base 3 1 v zs.length (zs.map (Value.int .i64)) := by have := hO; unfold RowsL.Own at this; rwa [List.length_map] at this
  rcases hO'.2 with ⟨rfl, hz⟩ | ⟨gb, cap, cur, rfl, hbase, hgb, r1, r2, r3, r4⟩
  · have hss : zs = [] := List.eq_nil_of_length_eq_zero hz
    subst hss
    refine (AnyM.slices_Sort_int_none Tryd.sortI none 0 W).mono ?_
    rintro e w' ⟨rfl, rfl⟩
    exact ⟨rfl, by simpa using hO, Below.refl _ _⟩
  · have hH : Holds (Value.int .i64) W gb 0 zs.toArray := holds_of_block_i hgb (by simpa using r4)
    have hgl : gb < W.heap.size := (Array.getElem?_eq_some_iff.1 hgb).1
    refine (AnyM.slices_Sort_int Tryd.sortI gb 0 cap zs W hH hgl (by omega)).mono ?_
    rintro e w' ⟨rfl, nn, os, rfl⟩
    refine ⟨rfl, ?_, (Below.refl base W).grown (grownBy_sorted_i _) (by omega) (fun j hj => by cases hj; exact hbase)⟩
    unfold RowsL.Own
    rw [List.length_map, List.length_mergeSort]
    exact ownsRow_sorted_i (by simp) hbase hgb r1 r2 r3
theorem below_dr {B : Nat} {w W : World} (h : Below B w W) (q : Nat) : Below B w (W.drewN q) := ⟨h.os, h.tape, h.output, h.size, h.block⟩
/-- Who goes, in order. -/
def goneL (now old : Int) (L : List Link) : List Int := ((L.filter (goneB now old)).map (·.id)).mergeSort fun x y => decide (x ≤ y)
/-- What Tick leaves. -/
def TickP (w : World) (b m : Nat) (many last now old : Int) (B : List (Int × ByteArray)) (v : Value) (L : List Link) (e : Ending) (W : World) : Prop :=
  ∃ ga gn gc v', e = .returned (.tuple #[.slice ga gn gc, .nilIface]) ∧ RowsL.Own W w.heap.size 3 (.slice ga gn gc) ((goneL now old L).map (Value.int .i64)) ∧ IsPool W b m many last now B v' (L.filter fun x => !goneB now old x) ∧ v'.ownBlock = v.ownBlock ∧ Mod (PoolS b m v) w W
theorem tickJ_keep {w1 : World} {gr q : Nat} {now old : Int} {L : List Link} {i : Nat} {W W' : World} (h : TickJ w1 gr q now old L i W) (hM : ModB gr W W') (hgq : gr < q) : TickJ w1 gr q now old L i W' := by
  obtain ⟨hm, hlt, gv, cg, fg, hO⟩ := h
  refine ⟨hm.andThen hM (fun k _ e => .inl e), Nat.lt_of_lt_of_le hlt hM.size, gv, (hM.cell (p := ⟨q, 0, none⟩) hlt (by simp; omega)).trans cg, (hM.frozen (p := ⟨q, 0, none⟩) hlt (by simp; omega)).trans fg, hO.of_block (fun k hk => hM.block k (RowsL.Own.lt hO k hk).2 (by have := (RowsL.Own.lt hO k hk).1; omega))⟩
set_option maxRecDepth 100000 in
set_option maxHeartbeats 8000000 in
theorem tick_some {w : World} {b m : Nat} {many last now0 : Int} {B : List (Int × ByteArray)} {gr n c : Nat} {L : List Link} (h : IsPool w b m many last now0 B (.slice (some ⟨gr, 0, none⟩) n c) L) (now old : Int) (hn : 0 ≤ now ∧ now ≤ 1000000) (ho : 0 ≤ old ∧ old ≤ 1000000) (hl : now0 ≤ now) (h0 : 0 ≤ now0)
    (hL : L.length < 1000000) (hx : ∀ x ∈ L, 0 ≤ x.at_ ∧ x.at_ ≤ 1000000) :
    Calls Tryd.prog 14 #[.pointer (some ⟨b, 0, none⟩), .int .i64 now, .int .i64 old] w (TickP w b m many last now old B (.slice (some ⟨gr, 0, none⟩) n c) L) := by
  have hgr := h.own.lt gr rfl
  have hnl : L.length = n := by
    obtain ⟨a0, c0, e0, _⟩ := h.own.slice
    simp only [Value.slice.injEq] at e0
    exact e0.2.1.symm
  have hbw := h.blt
  have hmw := h.lt
  have H := Lib.hid h
  have HX := Lib.hid hx
  have HNL := Lib.hid hnl
  have t1 : ¬ now < 0 := by omega
  have t2 : ¬ 1000000 < now := by omega
  have t3 : ¬ old < 0 := by omega
  have t4 : ¬ 1000000 < old := by omega
  have t5 : decide (now < now0) = false := decide_eq_false (by omega)
  have k2 := h.c2
  clear h hx hnl
  go_enter Tryd.func14, Tryd.ntmps14
  go_wp2_with fail
  go_quiet (fail)
  have hB3 : Below w.heap.size w (((w.alloc (.cells #[.int .i64 now] 3)).alloc (.cells #[.int .i64 old] 3)).drewN nq) := below_dr (((Below.refl _ w).alloc (Nat.le_refl _) _).alloc (by simp) _) _
  have k3 : (((w.alloc (.cells #[.int .i64 now] 3)).alloc (.cells #[.int .i64 old] 3)).drewN nq).cell? ⟨w.heap.size, 0, none⟩ = some (.int .i64 now) := by simp
  have k4 : (((w.alloc (.cells #[.int .i64 now] 3)).alloc (.cells #[.int .i64 old] 3)).drewN nq).cell? ⟨w.heap.size + 1, 0, none⟩ = some (.int .i64 old) := by simp
  have hs3 : w.heap.size + 1 < (((w.alloc (.cells #[.int .i64 now] 3)).alloc (.cells #[.int .i64 old] 3)).drewN nq).heap.size := by simp
  generalize ((w.alloc (.cells #[.int .i64 now] 3)).alloc (.cells #[.int .i64 old] 3)).drewN nq = w3 at *
  have hP3 := H.out.below hB3
  have f3 := hP3.thaw 2
  have k5 := hP3.c2
  have c34 := hP3.c4
  have f34 := hP3.thaw 4
  have hP4 : IsPool ((w3.setCell ⟨b, 2, none⟩ (.int .i64 now)).alloc (.cells #[.slice none 0 0] 31)) b m many last now B (.slice (some ⟨gr, 0, none⟩) n c) L := (hP3.now now).below ((Below.refl _ _).alloc (Nat.le_refl _) _)
  have hM4 : Mod (PoolS b m (.slice (some ⟨gr, 0, none⟩) n c)) w ((w3.setCell ⟨b, 2, none⟩ (.int .i64 now)).alloc (.cells #[.slice none 0 0] 31)) := ((Mod.ofBelow hB3 (fun k h1 h2 => by omega)).setCell (p := ⟨b, 2, none⟩) (fun _ => .inl rfl) _).alloc _
  have HW4 : Hid (∃ W4, W4 = (w3.setCell ⟨b, 2, none⟩ (.int .i64 now)).alloc (.cells #[.slice none 0 0] 31) ∧ w3.heap.size < W4.heap.size ∧ W4.cell? ⟨w.heap.size, 0, none⟩ = some (.int .i64 now) ∧ W4.cell? ⟨w.heap.size + 1, 0, none⟩ = some (.int .i64 old) ∧ W4.cell? ⟨w3.heap.size, 0, none⟩ = some (.slice none 0 0) ∧ W4.frozen? ⟨w3.heap.size, 0, none⟩ = false) :=
    ⟨_, rfl, by simp, (by rw [World.cell?_alloc_lt _ _ _ (by simp; omega), World.cell?_setCell_other _ _ _ _ (fun e => by have := congrArg Addr.block e; simp at this; omega)]; exact k3), (by rw [World.cell?_alloc_lt _ _ _ (by simp; omega), World.cell?_setCell_other _ _ _ _ (fun e => by have := congrArg Addr.block e; simp at this; omega)]; exact k4), (by rw [← World.size_setCell w3 ⟨b, 2, none⟩ (.int .i64 now)]; exact World.cell?_alloc_new _ _ _ _), (by rw [← World.size_setCell w3 ⟨b, 2, none⟩ (.int .i64 now)]; exact World.frozen?_alloc_at _ _ _ _ rfl)⟩
  have HDEL : Hid (Calls Tryd.prog 30 #[.slice (some ⟨gr, 0, none⟩) n c, .func (.func 31) #[] #[.pointer (some ⟨w.heap.size, 0, none⟩), .pointer (some ⟨w.heap.size + 1, 0, none⟩), .pointer (some ⟨w3.heap.size, 0, none⟩)]] ((w3.setCell ⟨b, 2, none⟩ (.int .i64 now)).alloc (.cells #[.slice none 0 0] 31)) fun e w5 =>
      ∃ n' ga gn gc, e = .returned (.slice (some ⟨gr, 0, none⟩) n' c) ∧ IsPool (w5.setCell ⟨b, 4, none⟩ (.slice (some ⟨gr, 0, none⟩) n' c)) b m many last now B (.slice (some ⟨gr, 0, none⟩) n' c) (L.filter fun x => !goneB now old x) ∧ Mod (PoolS b m (.slice (some ⟨gr, 0, none⟩) n c)) w (w5.setCell ⟨b, 4, none⟩ (.slice (some ⟨gr, 0, none⟩) n' c)) ∧
        RowsL.Own (w5.setCell ⟨b, 4, none⟩ (.slice (some ⟨gr, 0, none⟩) n' c)) (w3.heap.size + 1) 3 (.slice ga gn gc) (((L.filter (goneB now old)).map (·.id)).map (Value.int .i64)) ∧ w5.cell? ⟨b, 4, none⟩ = some (.slice (some ⟨gr, 0, none⟩) n c) ∧ w5.frozen? ⟨b, 4, none⟩ = false ∧ w5.cell? ⟨w3.heap.size, 0, none⟩ = some (.slice ga gn gc) ∧ w3.heap.size < w5.heap.size) := by
    obtain ⟨W4, e4, g1, g2, g3, g4, g5⟩ := HW4.out
    rw [← e4] at hP4 hM4 ⊢
    have hxx : ∀ i, i < n → 0 ≤ (L.getD i default).at_ ∧ (L.getD i default).at_ ≤ 1000000 := fun i hi => HX.out _ (getD_mem (by rw [HNL.out]; exact hi))
    refine (delf_any (goneB now old) 31 _ (enters_of Tryd.func31 (by kernel_rfl) rfl) (b + 1) gr n c L W4 hP4.own HNL.out (by have := HNL.out; omega) (fun i W => TickJ W4 gr w3.heap.size now old L i W) (TickT w3.heap.size) (fun i W W' h1 h2 => tickJ_keep h1 h2 (by omega)) ?t1 ?t2
      (fun i hi W hW => clo_any hW (by rw [HNL.out]; exact hi) hL (by omega) (by omega) (by omega) g2 g3 ⟨hn, ho⟩ (hxx i hi)) ⟨Mod.refl _ _, g1, _, g4, g5, RowsL.Own.nil _ _ _⟩).mono ?_
    case t1 =>
      rintro i W hW (e | ⟨v, hv, hb⟩)
      · omega
      · obtain ⟨_, _, gv, cg, _, hO⟩ := hW
        rw [cg] at hv
        obtain rfl := Option.some.inj hv
        have := (RowsL.Own.lt hO _ hb).1; omega
    case t2 =>
      rintro i W o hW (e | ⟨v, hv, hb⟩)
      · have := hW.lt; omega
      · obtain ⟨_, hl, gv, cg, _, hO⟩ := hW
        rw [World.cell?_alloc_lt _ _ _ hl, cg] at hv
        obtain rfl := Option.some.inj hv
        have := (RowsL.Own.lt hO _ hb).2; omega
    · rintro e w5 ⟨n', rfl, hO5, hJ⟩
      obtain ⟨hm5, hl5, gv, cg, fg, hOg⟩ := hJ
      obtain ⟨ga, gc, rfl, _⟩ := hOg.slice
      have hb5 := hm5.block b (by have := hP4.blt; omega) (by omega)
      have hmm5 := hm5.block m (by have := hP4.map.lt; omega) (by omega)
      have hPr := hP4.row2 hb5 hmm5 hO5
      refine ⟨n', ga, _, gc, rfl, hPr, (hM4.andThen hm5 (fun k hk h => ?_)).setCell (p := ⟨b, 4, none⟩) (fun _ => .inl rfl) _, ?_, (World.cell?_of_block (a := ⟨b, 4, none⟩) hb5).trans hP4.c4, (World.frozen?_of_block (a := ⟨b, 4, none⟩) hb5).trans (hP4.thaw 4), cg, hl5⟩
      · rcases h with rfl | h
        · exact .inr (.inr rfl)
        · omega
      · rw [show ((L.filter (goneB now old)).map (·.id)).map (Value.int .i64) = ids ((L.take n).filter (goneB now old)) by rw [← HNL.out, List.take_length]; simp [ids]]
        exact hOg.setCell _ _ (fun e => by have := (RowsL.Own.lt hOg _ e).1; simp at this; omega)
  have hbw3 : b < w3.heap.size := by omega
  have HSORT := Lib.hid (fun W v (hO : RowsL.Own W (w3.heap.size + 1) 3 v (((L.filter (goneB now old)).map (·.id)).map (Value.int .i64))) => sort_any (base := w3.heap.size + 1) v ((L.filter (goneB now old)).map (·.id)) W hO (by rw [List.length_map]; have := List.length_filter_le (goneB now old) L; omega) )
  clear hP3 hB3 k2 t1 t2 t3 t4 t5 hP4 hM4 HW4
  go_wp2_with (first
    | (go_at_call 30; (with_reducible refine HDEL.out.mono ?_); rintro e w5 ⟨n', ga, gn, gc, rfl, hP6, hM6, hO6, c54, f54, c5q, hl5⟩; have HP6 := Lib.hid hP6; have HM6 := Lib.hid hM6; have HO6 := Lib.hid hO6; clear hP6 hM6 hO6)
    | (go_at_call 32; (with_reducible refine (HSORT.out _ _ HO6.out).mono ?_); rintro e w7 ⟨rfl, hO7, hB7⟩; have hq7 := (hB7.cell (p := ⟨w3.heap.size, 0, none⟩) (by simp)); have HO7 := Lib.hid hO7; have HB7 := Lib.hid hB7; clear hO7 hB7))
  go_ret2
  have hB7 := HB7.out
  have hlq : w3.heap.size + 1 ≤ w7.heap.size := by have := hB7.size; simp at this; omega
  refine ⟨ga, gn, gc, _, rfl, HO7.out.mono (by omega), HP6.out.of_blocks (hB7.block _ (by omega)) (hB7.block _ (by omega)) (fun k hk => hB7.block k (by obtain rfl : gr = k := Option.some.inj hk; omega)), rfl, HM6.out.below hB7 (fun k h1 h2 => by omega)⟩
theorem goneB_nil (now old : Int) : goneL now old [] = [] := by simp [goneL]
set_option maxRecDepth 100000 in
set_option maxHeartbeats 8000000 in
theorem tick_none {w : World} {b m : Nat} {many last now0 : Int} {B : List (Int × ByteArray)} {L : List Link} (h : IsPool w b m many last now0 B (.slice none 0 0) L) (now old : Int) (hn : 0 ≤ now ∧ now ≤ 1000000) (ho : 0 ≤ old ∧ old ≤ 1000000) (hl : now0 ≤ now) (h0 : 0 ≤ now0) :
    Calls Tryd.prog 14 #[.pointer (some ⟨b, 0, none⟩), .int .i64 now, .int .i64 old] w (TickP w b m many last now old B (.slice none 0 0) L) := by
  have hL : L = [] := by
    obtain ⟨a0, c0, e0, _⟩ := h.own.slice
    simp only [Value.slice.injEq] at e0
    exact List.eq_nil_of_length_eq_zero e0.2.1.symm
  subst hL
  have hbw := h.blt
  have hmw := h.lt
  have H := Lib.hid h
  have t1 : ¬ now < 0 := by omega
  have t2 : ¬ 1000000 < now := by omega
  have t3 : ¬ old < 0 := by omega
  have t4 : ¬ 1000000 < old := by omega
  have t5 : decide (now < now0) = false := decide_eq_false (by omega)
  have k2 := h.c2
  clear h
  go_enter Tryd.func14, Tryd.ntmps14
  go_wp2_with fail
  go_quiet (fail)
  have hB3 : Below w.heap.size w (((w.alloc (.cells #[.int .i64 now] 3)).alloc (.cells #[.int .i64 old] 3)).drewN nq) := below_dr (((Below.refl _ w).alloc (Nat.le_refl _) _).alloc (by simp) _) _
  have k3 : (((w.alloc (.cells #[.int .i64 now] 3)).alloc (.cells #[.int .i64 old] 3)).drewN nq).cell? ⟨w.heap.size, 0, none⟩ = some (.int .i64 now) := by simp
  have hs3 : w.heap.size + 1 < (((w.alloc (.cells #[.int .i64 now] 3)).alloc (.cells #[.int .i64 old] 3)).drewN nq).heap.size := by simp
  generalize ((w.alloc (.cells #[.int .i64 now] 3)).alloc (.cells #[.int .i64 old] 3)).drewN nq = w3 at *
  have hP3 := H.out.below hB3
  have f3 := hP3.thaw 2
  have k5 := hP3.c2
  have c34 := hP3.c4
  have f34 := hP3.thaw 4
  have hP4 := hP3.now now
  have HP6 : Hid (IsPool (((w3.setCell ⟨b, 2, none⟩ (.int .i64 now)).setCell ⟨b, 4, none⟩ (.slice none 0 0)).alloc (.cells #[.slice none 0 0] 31)) b m many last now B (.slice none 0 0) []) := (hP4.row2 rfl rfl hP4.own).below ((Below.refl _ _).alloc (Nat.le_refl _) _)
  have HM6 : Hid (Mod (PoolS b m (.slice none 0 0)) w (((w3.setCell ⟨b, 2, none⟩ (.int .i64 now)).setCell ⟨b, 4, none⟩ (.slice none 0 0)).alloc (.cells #[.slice none 0 0] 31))) := (((Mod.ofBelow hB3 (fun k h1 h2 => by omega)).setCell (p := ⟨b, 2, none⟩) (fun _ => .inl rfl) _).setCell (p := ⟨b, 4, none⟩) (fun _ => .inl rfl) _).alloc _
  have hbw3 : b < w3.heap.size := by omega
  have HSORT := Lib.hid (fun W => sort_any (base := w3.heap.size + 1) (.slice none 0 0) [] W (RowsL.Own.nil _ _ _) (by simp))
  have HDEL := Lib.hid (delf_nil 31)
  clear hP3 hB3 k2 t1 t2 t3 t4 t5 hP4
  go_wp2_with (first
    | (go_at_call 30; (with_reducible refine (HDEL.out _ _).mono ?_); rintro e w5 ⟨rfl, rfl⟩)
    | (go_at_call 32; (with_reducible refine (HSORT.out _).mono ?_); rintro e w7 ⟨rfl, hO7, hB7⟩; have hq7 := (hB7.cell (p := ⟨w3.heap.size, 0, none⟩) (by simp)); have HO7 := Lib.hid hO7; have HB7 := Lib.hid hB7; clear hO7 hB7))
  go_ret2
  have hB7 := HB7.out
  refine ⟨none, 0, 0, .slice none 0 0, rfl, by rw [goneB_nil]; exact RowsL.Own.nil _ _ _, HP6.out.of_blocks (hB7.block _ (by omega)) (hB7.block _ (by omega)) (fun k hk => by cases hk), rfl, HM6.out.below hB7 (fun k h1 h2 => by omega)⟩
theorem tick_ok {w : World} {b m : Nat} {many last now0 : Int} {B : List (Int × ByteArray)} {v : Value} {L : List Link} (h : IsPool w b m many last now0 B v L) (now old : Int) (hn : 0 ≤ now ∧ now ≤ 1000000) (ho : 0 ≤ old ∧ old ≤ 1000000) (hl : now0 ≤ now) (h0 : 0 ≤ now0)
    (hL : L.length < 1000000) (hx : ∀ x ∈ L, 0 ≤ x.at_ ∧ x.at_ ≤ 1000000) :
    Calls Tryd.prog 14 #[.pointer (some ⟨b, 0, none⟩), .int .i64 now, .int .i64 old] w (TickP w b m many last now old B v L) := by
  obtain ⟨a, c, rfl, _, _, hnil, hs⟩ := h.own.slice
  cases a with
  | none =>
    obtain ⟨e, rfl⟩ := hnil rfl
    subst e
    exact tick_none h now old hn ho hl h0
  | some x =>
    obtain ⟨g, _, rfl, _⟩ := hs x rfl
    exact tick_some h now old hn ho hl h0 hL hx
set_option maxRecDepth 100000 in
set_option maxHeartbeats 4000000 in
theorem tick_state {w : World} {b m : Nat} {many last now0 : Int} {B : List (Int × ByteArray)} {v : Value} {L : List Link} (h : IsPool w b m many last now0 B v L) (now old : Int) (hn : 0 ≤ now ∧ now ≤ 1000000) (ho : 0 ≤ old ∧ old ≤ 1000000) (hl : now < now0) :
    Calls Tryd.prog 14 #[.pointer (some ⟨b, 0, none⟩), .int .i64 now, .int .i64 old] w fun e w' => e = .returned (.tuple #[.slice none 0 0, .iface 72 (.int .i64 6)]) ∧ Below w.heap.size w w' := by
  have hbw := h.blt
  have t1 : ¬ now < 0 := by omega
  have t2 : ¬ 1000000 < now := by omega
  have t3 : ¬ old < 0 := by omega
  have t4 : ¬ 1000000 < old := by omega
  have t5 : decide (now < now0) = true := decide_eq_true hl
  have k2 := h.c2
  clear h
  go_enter Tryd.func14, Tryd.ntmps14
  go_wp2_with fail
  go_quiet (fail)
  go_wp2_with fail
  go_ret2
  exact ⟨rfl, below_dr (((Below.refl _ w).alloc (Nat.le_refl _) _).alloc (by simp) _) _⟩
set_option maxRecDepth 100000 in
set_option maxHeartbeats 4000000 in
theorem tick_range {w : World} {b : Nat} (now old : Int) (h : ¬ ((0 ≤ now ∧ now ≤ 1000000) ∧ (0 ≤ old ∧ old ≤ 1000000))) :
    Calls Tryd.prog 14 #[.pointer (some ⟨b, 0, none⟩), .int .i64 now, .int .i64 old] w fun e w' => e = .returned (.tuple #[.slice none 0 0, .iface 72 (.int .i64 1)]) ∧ Below w.heap.size w w' := by
  have hB : Below w.heap.size w ((w.alloc (.cells #[.int .i64 now] 3)).alloc (.cells #[.int .i64 old] 3)) := ((Below.refl _ w).alloc (Nat.le_refl _) _).alloc (by simp) _
  have HB := Lib.hid hB
  clear hB
  by_cases t1 : now < 0
  · clear h
    go_enter Tryd.func14, Tryd.ntmps14
    go_wp2_with fail
    go_ret2
    exact ⟨rfl, HB.out⟩
  · by_cases t2 : 1000000 < now
    · clear h
      go_enter Tryd.func14, Tryd.ntmps14
      go_wp2_with fail
      go_ret2
      exact ⟨rfl, HB.out⟩
    · by_cases t3 : old < 0
      · clear h
        go_enter Tryd.func14, Tryd.ntmps14
        go_wp2_with fail
        go_ret2
        exact ⟨rfl, HB.out⟩
      · have t4 : 1000000 < old := by omega
        clear h
        go_enter Tryd.func14, Tryd.ntmps14
        go_wp2_with fail
        go_ret2
        exact ⟨rfl, HB.out⟩
end Go.Proofs.YtcdhjbeeehjpiaaDoor.PoolC
