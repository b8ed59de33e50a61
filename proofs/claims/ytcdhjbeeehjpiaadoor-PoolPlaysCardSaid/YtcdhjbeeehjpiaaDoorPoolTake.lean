/-
  Contracts of package pool over this seat's translation: Take.
  Conditions: where the pool lies; the bounds.
-/
import Derived.Test.YtcdhjbeeehjpiaaDoorPool
import Derived.Test.YtcdhjbeeehjpiaaDoorRound
import Derived.Deep.RegionHeld3
import Derived.IntWalk
import Derived.Test.YtcdhjbeeehjpiaaDoorLineC
namespace Go.Proofs.YtcdhjbeeehjpiaaDoor.PoolC
open Go.RowKit MapsL ModL RowsK RowsM Back RoundL LineC
set_option linter.unusedSimpArgs false
set_option linter.unusedVariables false

attribute [local go_sem] Oper.semAt_some
/-- The world in which Take's own variables lie. -/
def takeW (w : World) (b : Nat) (t : ByteArray) : World := ((((w.alloc (.cells #[.pointer (some ⟨b, 0, none⟩)] 23)).alloc (.cells #[.string t] 9)).alloc (.cells #[.int .i64 0] 3)).alloc (.cells #[.bool false] 4)).alloc (.cells #[.nilIface] 25)
theorem takeW_below (w : World) (b : Nat) (t : ByteArray) : Below w.heap.size w (takeW w b t) :=
  (((((Below.refl _ w).alloc (Nat.le_refl _) _).alloc (by simp) _).alloc (by simp; omega) _).alloc (by simp; omega) _).alloc (by simp; omega) _
/-- Take's own variables. -/
structure Vars (W : World) (s b : Nat) (t : ByteArray) (r f e : Value) : Prop where
  p : W.cell? ⟨s, 0, none⟩ = some (.pointer (some ⟨b, 0, none⟩))
  t : W.cell? ⟨s + 1, 0, none⟩ = some (.string t)
  r : W.cell? ⟨s + 1 + 1, 0, none⟩ = some r
  f : W.cell? ⟨s + 1 + 1 + 1, 0, none⟩ = some f
  e : W.cell? ⟨s + 1 + 1 + 1 + 1, 0, none⟩ = some e
  fr : W.frozen? ⟨s + 1 + 1, 0, none⟩ = false
  ff : W.frozen? ⟨s + 1 + 1 + 1, 0, none⟩ = false
  fe : W.frozen? ⟨s + 1 + 1 + 1 + 1, 0, none⟩ = false
theorem Vars.keep {W W' : World} {s b : Nat} {t : ByteArray} {r f e : Value} (h : Vars W s b t r f e) (hk : ∀ k, s ≤ k → k ≤ s + 4 → W'.heap[k]? = W.heap[k]?) : Vars W' s b t r f e :=
  ⟨(World.cell?_of_block (a := ⟨s, 0, none⟩) (hk _ (by simp) (by simp))).trans h.p, (World.cell?_of_block (a := ⟨s + 1, 0, none⟩) (hk _ (by simp) (by simp))).trans h.t,
    (World.cell?_of_block (a := ⟨s + 1 + 1, 0, none⟩) (hk _ (by simp; omega) (by simp; try omega))).trans h.r, (World.cell?_of_block (a := ⟨s + 1 + 1 + 1, 0, none⟩) (hk _ (by simp; omega) (by simp; try omega))).trans h.f, (World.cell?_of_block (a := ⟨s + 1 + 1 + 1 + 1, 0, none⟩) (hk _ (by simp; omega) (by simp; try omega))).trans h.e,
    (World.frozen?_of_block (a := ⟨s + 1 + 1, 0, none⟩) (hk _ (by simp; omega) (by simp; try omega))).trans h.fr, (World.frozen?_of_block (a := ⟨s + 1 + 1 + 1, 0, none⟩) (hk _ (by simp; omega) (by simp; try omega))).trans h.ff, (World.frozen?_of_block (a := ⟨s + 1 + 1 + 1 + 1, 0, none⟩) (hk _ (by simp; omega) (by simp; try omega))).trans h.fe⟩
theorem takeW_size (w : World) (b : Nat) (t : ByteArray) : (takeW w b t).heap.size = w.heap.size + 5 := by simp [takeW]
theorem cell_of_heap {W : World} {k : Nat} {cs : Array Value} {T : TypeId} (h : W.heap[k]? = some (.cells cs T (0, 0))) (j : Nat) : W.cell? ⟨k, j, none⟩ = cs[j]? ∧ W.frozen? ⟨k, j, none⟩ = false := by
  simp [World.cell?, World.frozen?, h]
theorem new_at (W : World) (o : Obj) (k : Nat) (hk : k = W.heap.size) : (W.alloc o).heap[k]? = some o := by subst hk; exact heap_alloc_new W o
theorem takeW_vars (w : World) (b : Nat) (t : ByteArray) : Vars (takeW w b t) w.heap.size b t (.int .i64 0) (.bool false) .nilIface := by
  have h0 : (takeW w b t).heap[w.heap.size]? = some (.cells #[.pointer (some ⟨b, 0, none⟩)] 23 (0, 0)) := ((heap_alloc_old _ _ _ (by first | (simp; done) | (simp; omega))).trans ((heap_alloc_old _ _ _ (by first | (simp; done) | (simp; omega))).trans ((heap_alloc_old _ _ _ (by first | (simp; done) | (simp; omega))).trans ((heap_alloc_old _ _ _ (by first | (simp; done) | (simp; omega))).trans (new_at _ _ _ (by simp))))))
  have h1 : (takeW w b t).heap[w.heap.size + 1]? = some (.cells #[.string t] 9 (0, 0)) := ((heap_alloc_old _ _ _ (by first | (simp; done) | (simp; omega))).trans ((heap_alloc_old _ _ _ (by first | (simp; done) | (simp; omega))).trans ((heap_alloc_old _ _ _ (by first | (simp; done) | (simp; omega))).trans (new_at _ _ _ (by simp)))))
  have h2 : (takeW w b t).heap[w.heap.size + 1 + 1]? = some (.cells #[.int .i64 0] 3 (0, 0)) := ((heap_alloc_old _ _ _ (by first | (simp; done) | (simp; omega))).trans ((heap_alloc_old _ _ _ (by first | (simp; done) | (simp; omega))).trans (new_at _ _ _ (by simp))))
  have h3 : (takeW w b t).heap[w.heap.size + 1 + 1 + 1]? = some (.cells #[.bool false] 4 (0, 0)) := ((heap_alloc_old _ _ _ (by first | (simp; done) | (simp; omega))).trans (new_at _ _ _ (by simp)))
  have h4 : (takeW w b t).heap[w.heap.size + 1 + 1 + 1 + 1]? = some (.cells #[.nilIface] 25 (0, 0)) := (new_at _ _ _ (by simp))
  exact ⟨(cell_of_heap h0 0).1, (cell_of_heap h1 0).1, (cell_of_heap h2 0).1, (cell_of_heap h3 0).1, (cell_of_heap h4 0).1, (cell_of_heap h2 0).2, (cell_of_heap h3 0).2, (cell_of_heap h4 0).2⟩
theorem cell3_0 {W : World} {s : Nat} {o a b c : Value} (h : W.cell? ⟨s, 0, none⟩ = some o) : (((W.setCell ⟨s, 0, none⟩ a).setCell ⟨s + 1, 0, none⟩ b).setCell ⟨s + 1 + 1, 0, none⟩ c).cell? ⟨s, 0, none⟩ = some a := by
  rw [World.cell?_setCell_other _ _ _ _ (fun e => by have := congrArg Addr.block e; simp at this; omega), World.cell?_setCell_other _ _ _ _ (fun e => by have := congrArg Addr.block e; simp at this)]
  exact World.cell?_setCell_same _ _ _ h
theorem cell3_1 {W : World} {s : Nat} {o a b c : Value} (h : W.cell? ⟨s + 1, 0, none⟩ = some o) : (((W.setCell ⟨s, 0, none⟩ a).setCell ⟨s + 1, 0, none⟩ b).setCell ⟨s + 1 + 1, 0, none⟩ c).cell? ⟨s + 1, 0, none⟩ = some b := by
  rw [World.cell?_setCell_other _ _ _ _ (fun e => by have := congrArg Addr.block e; simp at this)]
  exact World.cell?_setCell_same _ _ _ ((World.cell?_setCell_other _ _ _ _ (fun e => by have := congrArg Addr.block e; simp at this)).trans h)
theorem cell3_2 {W : World} {s : Nat} {o a b c : Value} (h : W.cell? ⟨s + 1 + 1, 0, none⟩ = some o) : (((W.setCell ⟨s, 0, none⟩ a).setCell ⟨s + 1, 0, none⟩ b).setCell ⟨s + 1 + 1, 0, none⟩ c).cell? ⟨s + 1 + 1, 0, none⟩ = some c := by
  exact World.cell?_setCell_same _ _ _ ((World.cell?_setCell_other _ _ _ _ (fun e => by have := congrArg Addr.block e; simp at this)).trans ((World.cell?_setCell_other _ _ _ _ (fun e => by have := congrArg Addr.block e; simp at this; omega)).trans h))
theorem load_of {P : Program} {t : TypeId} {a : Addr} {v : Value} {w : World} (ha : ∀ w, (isAgg t).run P w = .ok false w) (hc : w.cell? a = some v) : (loadVar t a).run P w = .ok v w := by
  simp [loadVar, Sem.run_bind, ha, Result.andThen, run_load, hc]
theorem results_cell3 {P : Program} {fn : Func} {p q r : Tmp} {t0 t1 t2 : TypeId} {a0 a1 a2 : Addr} {v0 v1 v2 : Value} {tmps : Array Value} {w : World} (h : fn.results = #[.cell p t0, .cell q t1, .cell r t2])
    (h0 : tmps.getD p undef = .pointer (some a0)) (h1 : tmps.getD q undef = .pointer (some a1)) (h2 : tmps.getD r undef = .pointer (some a2)) (l0 : (loadVar t0 a0).run P w = .ok v0 w) (l1 : (loadVar t1 a1).run P w = .ok v1 w) (l2 : (loadVar t2 a2).run P w = .ok v2 w) :
    (results fn tmps).run P w = .ok (.tuple #[v0, v1, v2]) w := by
  simp only [Array.getD_eq_getD_getElem?] at h0 h1 h2
  simp only [results, h]
  simp [Sem.run_bind, Result.andThen, h0, h1, h2, asAddr, l0, l1, l2]
theorem take_bad {w : World} {b m : Nat} {many last now : Int} {B : List (Int × ByteArray)} {v : Value} {L : List Link} (h : IsPool w b m many last now B v L) (t : ByteArray) (ht : tokL t.data.toList = false) :
    Calls Tryd.prog 9 #[.pointer (some ⟨b, 0, none⟩), .string t] w fun e w' => e = .returned (.tuple #[.int .i64 0, .bool false, .iface 72 (.int .i64 2)]) ∧ Below w.heap.size w w' := by
  have HT := Lib.hid (token_any t)
  rw [ht] at HT
  clear h ht
  go_enter Tryd.func9, Tryd.ntmps9
  have HV := Lib.hid (fun w1 (hB : Below (takeW w b t).heap.size (takeW w b t) w1) => (takeW_vars w b t).keep (fun k h1 h2 => hB.block k (by rw [takeW_size]; omega)))
  go_wp2_with (go_at_call 26; (with_reducible refine (HT.out _).mono ?_); rintro e w1 ⟨rfl, hB1⟩; obtain ⟨v0, v1, v2, v3, v4, v5, v6, v7⟩ := HV.out w1 hB1)
  have hsz : w.heap.size + 5 ≤ w1.heap.size := by simpa using hB1.size
  refine bodyPost_ret (results_cell3 (v0 := .int .i64 0) (v1 := .bool false) (v2 := .iface 72 (.int .i64 2)) rfl rfl rfl rfl ?l0 ?l1 ?l2) rfl ?_
  case l0 => exact load_of Tryd.isAgg3 (cell3_0 v2)
  case l1 => exact load_of Tryd.isAgg4 (cell3_1 v3)
  case l2 => exact load_of Tryd.isAgg25 (cell3_2 v4)
  exact ⟨rfl, ((((takeW_below w b t).trans (hB1.mono (by simp; omega))).setCell (by show w.heap.size ≤ w.heap.size + 1 + 1; omega) _).setCell (by show w.heap.size ≤ w.heap.size + 1 + 1 + 1; omega) _).setCell (by show w.heap.size ≤ w.heap.size + 1 + 1 + 1 + 1; omega) _⟩
def putB (B : List (Int × ByteArray)) (id : Int) (t : ByteArray) : List (Int × ByteArray) := match B with
  | [] => [(id, t)]
  | p :: B => if p.1 == id then (id, t) :: B else p :: putB B id t
theorem putA_encB (B : List (Int × ByteArray)) (id : Int) (t : ByteArray) : putA (encB B) (.int .i64 id) (.string t) = encB (putB B id t) := by
  induction B with
  | nil => rfl
  | cons p B ih =>
    have e : encB (p :: B) = (.int .i64 p.1, .string p.2) :: encB B := rfl
    rw [e, putA, putB, key_same, ih]
    cases h : (p.1 == id) <;> rfl
theorem IsPool.drew {w : World} {b m : Nat} {many last now : Int} {B : List (Int × ByteArray)} {v : Value} {L : List Link} (h : IsPool w b m many last now B v L) : IsPool w.drew b m many last now B v L := h.of_blocks rfl rfl (fun _ _ => rfl)
theorem IsPool.put {w w2 : World} {b m : Nat} {many last now : Int} {B B2 : List (Int × ByteArray)} {v : Value} {L : List Link} (h : IsPool w b m many last now B v L) (hg : w.grownBy w2 (some m)) (hm : MapIs w2 Tryd.prog 3 m (encB B2)) : IsPool w2 b m many last now B2 v L :=
  h.del ((Mod.refl _ w).grown hg (fun k hk _ => (Option.some.inj hk).symm)) hm
theorem IsPool.last {w : World} {b m : Nat} {many last now : Int} {B : List (Int × ByteArray)} {v : Value} {L : List Link} (h : IsPool w b m many last now B v L) (l2 : Int) : IsPool (w.setCell ⟨b, 1, none⟩ (.int .i64 l2)) b m many l2 now B v L := by
  have hlt := h.lt
  have hne : ∀ j, j ≠ 1 → (w.setCell ⟨b, 1, none⟩ (.int .i64 l2)).cell? ⟨b, j, none⟩ = w.cell? ⟨b, j, none⟩ := fun j hj => World.cell?_setCell_other w ⟨b, 1, none⟩ ⟨b, j, none⟩ _ (fun e => hj (congrArg Addr.off e).symm)
  refine ⟨(hne 0 (by decide)).trans h.c0, World.cell?_setCell_same _ _ _ h.c1, (hne 2 (by decide)).trans h.c2, (hne 3 (by decide)).trans h.c3, (hne 4 (by decide)).trans h.c4, fun j => ?_, h.map.setCell _ _ (by show b ≠ m; omega), h.own.setCell _ _ (fun e => by have := (h.own.lt b e).1; omega), h.lt⟩
  rw [World.frozen?_setCell]
  exact h.thaw j
theorem vars_set {W : World} {s b : Nat} {t : ByteArray} {r f e r' f' e' : Value} (h : Vars W s b t r f e) : Vars (((W.setCell ⟨s + 1 + 1, 0, none⟩ r').setCell ⟨s + 1 + 1 + 1, 0, none⟩ f').setCell ⟨s + 1 + 1 + 1 + 1, 0, none⟩ e') s b t r' f' e' := by
  have hn : ∀ {X : World} {k j : Nat} {u : Value}, j ≠ k → (X.setCell ⟨k, 0, none⟩ u).cell? ⟨j, 0, none⟩ = X.cell? ⟨j, 0, none⟩ := fun {X k j u} hne => World.cell?_setCell_other X ⟨k, 0, none⟩ ⟨j, 0, none⟩ u (fun e => hne (congrArg Addr.block e).symm)
  refine ⟨?_, ?_, cell3_0 h.r, cell3_1 h.f, cell3_2 h.e, ?_, ?_, ?_⟩
  · rw [hn (by omega), hn (by omega), hn (by omega)]; exact h.p
  · rw [hn (by omega), hn (by omega), hn (by omega)]; exact h.t
  · rw [World.frozen?_setCell, World.frozen?_setCell, World.frozen?_setCell]; exact h.fr
  · rw [World.frozen?_setCell, World.frozen?_setCell, World.frozen?_setCell]; exact h.ff
  · rw [World.frozen?_setCell, World.frozen?_setCell, World.frozen?_setCell]; exact h.fe
theorem vars_set_blocks {W : World} {s : Nat} {r' f' e' : Value} {k : Nat} (h : k < s ∨ s + 4 < k) : (((W.setCell ⟨s + 1 + 1, 0, none⟩ r').setCell ⟨s + 1 + 1 + 1, 0, none⟩ f').setCell ⟨s + 1 + 1 + 1 + 1, 0, none⟩ e').heap[k]? = W.heap[k]? := by
  rw [Below.heap_setCell _ _ _ _ (by simp; omega), Below.heap_setCell _ _ _ _ (by simp; omega), Below.heap_setCell _ _ _ _ (by simp; omega)]
/-- What Take writes. -/
def TakeS (s b m : Nat) (v : Value) (k : Nat) : Prop := PoolS b m v k ∨ (s ≤ k ∧ k ≤ s + 4)
theorem vars_set_mod {W0 W : World} {s b m : Nat} {v r' f' e' : Value} (h : Mod (TakeS s b m v) W0 W) : Mod (TakeS s b m v) W0 (((W.setCell ⟨s + 1 + 1, 0, none⟩ r').setCell ⟨s + 1 + 1 + 1, 0, none⟩ f').setCell ⟨s + 1 + 1 + 1 + 1, 0, none⟩ e') :=
  ((h.setCell (fun _ => .inr (by simp; omega)) _).setCell (fun _ => .inr (by simp; omega)) _).setCell (fun _ => .inr (by simp; omega)) _
theorem getD_mem {L : List Link} {j : Nat} (h : j < L.length) : L.getD j default ∈ L := by
  rw [List.getD_eq_getElem?_getD, List.getElem?_eq_getElem h]; exact List.getElem_mem h
theorem take_end {w W : World} {D b m : Nat} {t : ByteArray} {many last now : Int} {B : List (Int × ByteArray)} {v v0 r f e r' f' e' : Value} {L : List Link} (hbw : b < w.heap.size) (hmb : m < b) (hown : ∀ k, v.ownBlock = some k → k < w.heap.size) (hD : w.heap.size + 5 ≤ D) (hK : W.heap[D]? = some (.deferred (some [])))
    (hV : Vars W w.heap.size b t r f e) (hP : IsPool W b m many last now B v L) (hM : Mod (TakeS w.heap.size b m v0) w W) :
    (((W.setCell ⟨w.heap.size + 1 + 1, 0, none⟩ r').setCell ⟨w.heap.size + 1 + 1 + 1, 0, none⟩ f').setCell ⟨w.heap.size + 1 + 1 + 1 + 1, 0, none⟩ e').heap[D]? = some (.deferred (some [])) ∧
    ∀ X, X = (((W.setCell ⟨w.heap.size + 1 + 1, 0, none⟩ r').setCell ⟨w.heap.size + 1 + 1 + 1, 0, none⟩ f').setCell ⟨w.heap.size + 1 + 1 + 1 + 1, 0, none⟩ e').putObj D (.deferred none) →
      Vars X w.heap.size b t r' f' e' ∧ IsPool X b m many last now B v L ∧ Mod (PoolS b m v0) w X := by
  have hK2 := (vars_set_blocks (W := W) (s := w.heap.size) (r' := r') (f' := f') (e' := e') (k := D) (by omega)).trans hK
  refine ⟨hK2, ?_⟩
  rintro X rfl
  have hM2 := vars_set_mod (r' := r') (f' := f') (e' := e') hM
  have hV2 := vars_set (r' := r') (f' := f') (e' := e') hV
  have hP2 := hP.of_blocks (vars_set_blocks (W := W) (s := w.heap.size) (r' := r') (f' := f') (e' := e') (by omega)) (vars_set_blocks (by omega)) (fun k hk => vars_set_blocks (by have := hown k hk; omega))
  generalize ((W.setCell ⟨w.heap.size + 1 + 1, 0, none⟩ r').setCell ⟨w.heap.size + 1 + 1 + 1, 0, none⟩ f').setCell ⟨w.heap.size + 1 + 1 + 1 + 1, 0, none⟩ e' = Y at *
  have hk : ∀ k, k < D → (Y.putObj D (.deferred none)).heap[k]? = Y.heap[k]? := fun k hk => (grownBy_putObj' Y D (.deferred none)).block k (by have := (Array.getElem?_eq_some_iff.1 hK2).1; omega) (fun e => by have := Option.some.inj e; omega)
  exact ⟨hV2.keep (fun k _ h2 => hk k (by omega)), hP2.of_blocks (hk b (by omega)) (hk m (by omega)) (fun k h => hk k (by have := hown k h; omega)),
    (hM2.grown (grownBy_putObj' Y D (.deferred none)) (fun k h1 h2 => by have := Option.some.inj h1; omega)).mono (fun k hk h => h.resolve_right (by omega))⟩
/-- Take finds one that is there: the one that came back last. -/
def TakeOld (W : World) (b m : Nat) (many last now : Int) (B : List (Int × ByteArray)) (a : Option Addr) (n c : Nat) (L : List Link) (t : ByteArray) (e : Ending) : Prop :=
  ∃ i, i < n ∧ (∀ j, i < j → j < n → isTo t (L.getD j default) = false) ∧ isTo t (L.getD i default) = true ∧ e = .returned (.tuple #[.int .i64 (L.getD i default).id, .bool false, .nilIface]) ∧
    IsPool W b m many last now (putB B (L.getD i default).id t) (.slice a (n - 1) c) (L.take i ++ L.drop (i + 1))
/-- There is no room. -/
def TakeFull (W : World) (b m : Nat) (many last now : Int) (B : List (Int × ByteArray)) (a : Option Addr) (n c : Nat) (L : List Link) (e : Ending) : Prop :=
  many ≤ B.length + n ∧ n = 0 ∧ e = .returned (.tuple #[.int .i64 0, .bool false, .iface 72 (.int .i64 4)]) ∧ IsPool W b m many last now B (.slice a n c) L
/-- A fresh one. -/
def TakeNew (W : World) (b m : Nat) (many last now : Int) (B : List (Int × ByteArray)) (a : Option Addr) (n c : Nat) (L : List Link) (t : ByteArray) (e : Ending) : Prop :=
  e = .returned (.tuple #[.int .i64 (last + 1), .bool true, .nilIface]) ∧ ((many ≤ B.length + n ∧ 0 < n ∧ IsPool W b m many (last + 1) now (putB B (last + 1) t) (.slice a (n - 1) c) (L.drop 1)) ∨ (¬ many ≤ B.length + n ∧ IsPool W b m many (last + 1) now (putB B (last + 1) t) (.slice a n c) L))
/-- What Take does. -/
def TakeP (w : World) (b m : Nat) (many last now : Int) (B : List (Int × ByteArray)) (a : Option Addr) (n c : Nat) (L : List Link) (t : ByteArray) (e : Ending) (W : World) : Prop :=
  Mod (PoolS b m (.slice a n c)) w W ∧ (TakeOld W b m many last now B a n c L t e ∨ ((∀ j, j < n → isTo t (L.getD j default) = false) ∧ (TakeFull W b m many last now B a n c L e ∨ TakeNew W b m many last now B a n c L t e)))
theorem comes_mem {n k j : Nat} (h : j < n) (hk : n - 1 - j < k) : j ∈ comes n k := by
  unfold comes upto
  exact List.mem_map.2 ⟨n - 1 - j, List.mem_range.2 hk, by omega⟩
theorem comes_last {n k : Nat} {q : List (Pl n)} {i : Pl n} (h : (q ++ [i]).map (·.1) = comes n k) {j : Nat} (h1 : i.1 < j) (h2 : j < n) : ∃ y ∈ q, y.1 = j := by
  have hl := congrArg List.length h
  rw [List.length_map, List.length_append, comes_length] at hl
  simp at hl
  subst hl
  rw [comes_succ, List.map_append] at h
  obtain ⟨e1, e2⟩ := List.append_inj h (by rw [List.length_map, comes_length])
  simp at e2
  have := comes_mem (k := q.length) h2 (by omega)
  rw [← e1] at this
  obtain ⟨y, hy, e⟩ := List.mem_map.1 this
  exact ⟨y, hy, e⟩
theorem comes_all {n : Nat} {q : List (Pl n)} (h : q.map (·.1) = comes n n) {j : Nat} (h2 : j < n) : ∃ y ∈ q, y.1 = j := by
  have := comes_mem (k := n) h2 (by omega)
  rw [← h] at this
  obtain ⟨y, hy, e⟩ := List.mem_map.1 this
  exact ⟨y, hy, e⟩
/-- None of these goes to t. -/
def NoneOf (t : ByteArray) (L : List Link) {n : Nat} (pre : List (Pl n)) : Prop := ∀ y ∈ pre, isTo t (L.getD y.1 default) = false
/-- The last of these goes to t, and is taken. -/
def OneOf (w W0 : World) (b m : Nat) (many last now : Int) (B : List (Int × ByteArray)) (a : Option Addr) (n c : Nat) (L : List Link) (t : ByteArray) (pre : List (Pl n)) (W : World) : Prop :=
  ∃ (q : List (Pl n)) (i : Pl n), pre = q ++ [i] ∧ NoneOf t L q ∧ isTo t (L.getD i.1 default) = true ∧ Vars W w.heap.size b t (.int .i64 (L.getD i.1 default).id) (.bool false) .nilIface ∧
      IsPool W b m many last now (putB B (L.getD i.1 default).id t) (.slice a (n - 1) c) (L.take i.1 ++ L.drop (i.1 + 1)) ∧ Mod (TakeS w.heap.size b m (.slice a n c)) W0 W
/-- The act of a round. -/
def actT (t : ByteArray) (s b n c x g : Nat) (a : Option Addr) (it : Value) (y : Link) : Act :=
  { tmps := #[.pointer (some ⟨b, 0, none⟩), .string t, .pointer (some ⟨s, 0, none⟩), .pointer (some ⟨s + 1, 0, none⟩), .pointer (some ⟨s + 1 + 1, 0, none⟩), .pointer (some ⟨s + 1 + 1 + 1, 0, none⟩), .pointer (some ⟨s + 1 + 1 + 1 + 1, 0, none⟩), .int .i64 x,
      .pointer (some ⟨g, 0, none⟩), .string t, .bool true, .bool false, undef, .pointer (some ⟨b, 0, none⟩), .pointer (some ⟨b, 0, none⟩), .pointer (some ⟨b, 4, none⟩), .slice a n c, it, .int .i64 x, .agg #[.int .i64 y.id, .int .i64 y.at_, .string y.to],
      undef, undef, undef, undef, undef, undef, undef, undef, undef, undef, undef, undef, undef, undef, undef, undef, undef, undef, undef, undef, undef, undef, undef, undef, undef, undef, undef, undef, undef, undef, undef, undef, undef, undef, undef, undef, undef, undef, undef, undef, undef, undef, undef, undef, undef, undef, undef, undef, undef, undef, undef, undef, undef, undef, undef, undef, undef, undef, undef, undef, undef, undef, undef, undef, undef, undef, undef, undef, undef, undef, undef, undef, undef, undef, undef], defers := [] }
set_option maxRecDepth 100000 in
set_option maxHeartbeats 8000000 in
theorem take_any {w : World} {b m : Nat} {many last now : Int} {B : List (Int × ByteArray)} {a : Option Addr} {n c : Nat} {L : List Link} (h : IsPool w b m many last now B (.slice a n c) L) (t : ByteArray) (ht : tokL t.data.toList = true)
    (hn1 : n < 1000000) (hBl : B.length < 1000000) (hmany : 1 ≤ many ∧ many ≤ 1000000) (hlast : 0 ≤ last ∧ last ≤ 1000000) (hids : ∀ x ∈ L, 0 ≤ x.id ∧ x.id ≤ 1000000) :
    Calls Tryd.prog 9 #[.pointer (some ⟨b, 0, none⟩), .string t] w (TakeP w b m many last now B a n c L t) := by
  have HT := Lib.hid (token_any t)
  rw [ht] at HT
  have hnl : L.length = n := by
    obtain ⟨a0, c0, e0, _⟩ := h.own.slice
    simp only [Value.slice.injEq] at e0
    exact e0.2.1.symm
  obtain ⟨gr, hgr, hgrl⟩ : ∃ gr, (0 < n → a = some ⟨gr, 0, none⟩) ∧ gr < w.heap.size := by
    by_cases h0 : 0 < n
    · obtain ⟨_, g, e, _, hl, _⟩ := link_cells h.own h0
      exact ⟨g, fun _ => e, hl⟩
    · exact ⟨0, fun h => absurd h h0, by have := h.blt; omega⟩
  have HP1 := Lib.hid (fun w1 (hB : Below (takeW w b t).heap.size (takeW w b t) w1) => (show IsPool w1 b m many last now B (.slice a n c) L from (h.below (takeW_below w b t)).below hB))
  have HV := Lib.hid (fun w1 (hB : Below (takeW w b t).heap.size (takeW w b t) w1) => (takeW_vars w b t).keep (fun k h1 h2 => hB.block k (by rw [takeW_size]; omega)))
  have HBK := Lib.hid (fun w1 => back_any a n c w1)
  have hbw := h.blt
  have HNL := Lib.hid hnl
  have HGR := Lib.hid hgr
  have HID := Lib.hid hids
  have hmw := h.lt
  have HOW := Lib.hid (show ∀ n' k, (Value.slice a n' c).ownBlock = some k → b + 1 ≤ k ∧ k < w.heap.size from fun n' k hk => h.own.lt k (by cases a <;> exact hk))
  clear h ht hnl hgr hids
  refine (callsIn_wide (n := 9)).1 ?_
  refine callsIn_of_wp_marks Tryd.func9 rfl trivial ?_ rfl
  simp only [Tryd.ntmps9, List.size_toArray, List.length_cons, List.length_nil, Nat.reduceAdd, Nat.reduceSub, Array.replicate_succ, Array.replicate_zero, List.push_toArray, List.append_toArray, List.nil_append, List.cons_append]
  refine (wpIn_wide (n := 9)).2 ?_
  go_wp2_with (first
    | (go_at_call 26; (with_reducible refine (HT.out _).mono ?_); rintro e w1 ⟨rfl, hB1⟩; obtain ⟨v0, v1, v2, v3, v4, v5, v6, v7⟩ := HV.out w1 hB1; have c4 := (HP1.out w1 hB1).c4)
    | (go_at_call 27; (with_reducible refine (HBK.out _).mono ?_); rintro e w2 ⟨rfl, rfl⟩))
  have hsz : w.heap.size + 5 ≤ w1.heap.size := by simpa using hB1.size
  have hV1 := HV.out w1 hB1
  have hP1 := HP1.out w1 hB1
  have HPB := Lib.hid (show Below w.heap.size w w1 from (takeW_below w b t).trans (hB1.mono (by simp; omega)))
  have hcell : (w1.alloc (.cells #[.slice a n c] 74)).cell? ⟨w1.heap.size, 0, none⟩ = some (.slice a n c) := World.cell?_alloc_new _ _ _ _
  have hP2 := hP1.below ((Below.refl _ w1).alloc (Nat.le_refl _) (.cells #[.slice a n c] 74))
  have hV2 : Vars (w1.alloc (.cells #[.slice a n c] 74)) w.heap.size b t (.int .i64 0) (.bool false) .nilIface := hV1.keep (fun k _ h2 => heap_alloc_old _ _ _ (by omega))
  have hB2 : Below w.heap.size w (w1.alloc (.cells #[.slice a n c] 74)) := HPB.out.alloc (by omega) _
  have hS2 : w.heap.size + 6 ≤ (w1.alloc (.cells #[.slice a n c] 74)).heap.size := by simp; omega
  have hS3 : w1.heap.size < (w1.alloc (.cells #[.slice a n c] 74)).heap.size := by simp
  generalize w1.alloc (.cells #[.slice a n c] 74) = W0 at *
  have hst := back_stops L (9 - 1) (by decide) w1.heap.size n c a gr 0 W0 hP2.own.at_ HGR.out hcell
  refine (wpIn_wide (n := 9)).1 ?_
  clear v0 v1 v2 v3 v4 v5 v6 v7 c4 HP1 HV HBK hB1 hP1 hV1
  refine wpIn_rangeFunc_ownH (n := 9) rfl (by decide) (gf := 50) (lb := #[.pointer (some ⟨w1.heap.size, 0, none⟩)]) rfl trivial (enters_of Tryd.func50 (by kernel_rfl) rfl) hst (fun h k => h.trans k) (KpB.put (by omega) (by omega)) (Below.refl _ _) (fun _ => rfl)
    (fun pre W => NoneOf t L pre ∧ Below W0.heap.size W0 W)
    (fun c1 pre W => c1 = .ret ∧ OneOf w W0 b m many last now B a n c L t pre W)
    (OwnFrom.and (ownFrom_pure _ _) (ownFrom_below (Nat.le_refl _) (Nat.le_refl _)))
    ?ownx ⟨fun _ h => (by cases h), Below.refl _ _⟩
    (fun x a' W => ∃ g, W0.heap.size ≤ g ∧ a' = actT t w.heap.size b n c x.1 g a (.func (.func 50) #[] #[.pointer (some ⟨w1.heap.size, 0, none⟩)]) (L.getD x.1 default) ∧ W.heap[g]? = some (.cells #[.int .i64 (L.getD x.1 default).id, .int .i64 (L.getD x.1 default).at_, .string (L.getD x.1 default).to] 82 (0, 0)))
    ?ownA ?assign ?body ?done ?stop
  case ownx =>
    rintro c1 pre W W' row ⟨hc, q, i, hpre, hq, hi, hV, hP, hM⟩ hg hr
    have hbk : ∀ k, k < W0.heap.size → W'.heap[k]? = W.heap[k]? := fun k hk => hg.block k (Nat.lt_of_lt_of_le hk hM.size) (fun e => by have := (hr k e.symm).1; omega)
    exact ⟨hc, q, i, hpre, hq, hi, hV.keep (fun k _ h2 => hbk k (by omega)), hP.of_blocks (hbk b (by omega)) (hbk m (by omega)) (fun k hk => hbk k (by have := (HOW.out _ k hk).2; omega)), hM.grown hg (fun k hk _ => by have := (hr k hk).1; omega)⟩
  case ownA =>
    rintro x a' ⟨⟩ W W' row ⟨g, h1, h2, h3⟩ hg hr
    exact ⟨g, h1, h2, (hg.block g (Array.getElem?_eq_some_iff.1 h3).1 (fun e => by obtain ⟨_, o, ho, hc⟩ := hr g e.symm; rw [h3] at ho; cases ho; cases hc)).trans h3⟩
  case assign =>
    rintro l pre x W K ⟨hIp, hIB⟩ hK
    simp only [encL]
    have hK' := Lib.hid hK
    have HIP := Lib.hid hIp
    clear hK hIp
    gi_wp2
    exact hK'.out _ _ ((KeepsOthers.alloc W _).from _) (KpB.below ((Below.refl W0.heap.size W).alloc hIB.size _) (by omega) (by omega)) ⟨HIP.out, hIB.alloc hIB.size _⟩ ⟨W.heap.size, hIB.size, rfl, heap_alloc_new W _⟩
  case body =>
    rintro l pre x a' W hl hr ⟨hIp, hIB⟩ ⟨g, hg, rfl, hgc⟩ hlen
    obtain ⟨x, hx⟩ := x
    simp only at hgc ⊢
    obtain ⟨⟨xi, xa, xt⟩, hy⟩ : ∃ y, L.getD x default = y := ⟨_, rfl⟩
    rw [hy] at hgc ⊢
    have HY := Lib.hid hy
    have d0 := (cell_of_heap hgc 0).1
    have d2 := (cell_of_heap hgc 2).1
    have hVW := hV2.keep (W' := W) (fun k _ h2 => hIB.block k (by omega))
    have v1 := hVW.t
    have HIP := Lib.hid hIp
    have HHR := Lib.hid hr
    have HGC := Lib.hid hgc
    have HHL := Lib.hid hl
    clear hIp hy hr hgc hl hcell hst hlen
    simp at d0 d2
    unfold actT
    rcases he : (xt.toList == t.toList) with _ | _
    · gi_wp2
      refine ⟨KeepsFrom.refl _ _, ⟨rfl, fun _ _ => rfl⟩, fun y hyq => ?_, hIB⟩
      rcases List.mem_append.1 hyq with h | h
      · exact HIP.out y h
      · obtain rfl := List.mem_singleton.1 h
        show isTo t (L.getD x default) = false
        rw [HY.out]; exact he
    · have hPW := hP2.below hIB
      have hMS : Mod (TakeS w.heap.size b m (.slice a n c)) W0 W := Mod.ofBelow hIB (fun k h1 h2 => by omega)
      obtain rfl := HGR.out (by omega)
      have c4 := hPW.c4
      have f4 := hPW.thaw 4
      have v0 := hVW.p
      have HPW := Lib.hid hPW
      have HMS := Lib.hid hMS
      have HVW := Lib.hid hVW
      have hDEL := Lib.hid (delete1 (b + 1) gr c n x L W.drew hPW.drew.own HNL.out hx (by omega))
      have hgsz : g < W.heap.size := block_lt_of_cell d0
      have hgx : (W0.heap.size ≤ g ∧ W0.heap.size ≤ W.heap.size) := ⟨by assumption, hIB.size⟩
      have HIB := Lib.hid hIB
      clear hPW hMS hVW hP2 hV2 hIB
      gi_wp2
      have hwr : IntKind.i64.wrap ((x : Int) + 1) = (x : Int) + 1 := IntWalk.i64_in _ (by omega)
      refine wpIn_region_held (fun W' => W'.cell? ⟨w.heap.size, 0, none⟩ = some (.pointer (some ⟨b, 0, none⟩))) (by kernel_rfl) (by kernel_rfl) v0 (fun hS => ?_)
      refine wpAnyH_take (i := 0) (v := ?_) rfl (by kernel_rfl) (by kernel_rfl) (by kernel_rfl) (fun _ _ _ h => h) (Or.inl ⟨by rfl, ?_⟩) (by assumption) ?_; rotate_left
      · intro w' hSw; (try dsimp only at hSw); go_simp; (try (with_reducible rfl)); done
      refine wpAnyH_take (i := 1) (v := ?_) rfl (by kernel_rfl) (by kernel_rfl) (by kernel_rfl) (fun _ _ _ h => h) (Or.inl ⟨by rfl, ?_⟩) (by assumption) ?_; rotate_left
      · intro w' hSw; (try dsimp only at hSw); go_simp; (try (with_reducible rfl)); done
      refine wpAnyH_take (i := 2) (v := ?_) rfl (by kernel_rfl) (by kernel_rfl) (by kernel_rfl) (fun _ _ _ h => h) (Or.inl ⟨by rfl, ?_⟩) (by assumption) ?_; rotate_left
      · intro w' hSw; (try dsimp only at hSw); go_simp; (try (with_reducible rfl)); done
      refine wpAnyH_take (i := 3) (v := ?_) rfl (by kernel_rfl) (by kernel_rfl) (by kernel_rfl) (fun _ _ _ h => h) (Or.inl ⟨by rfl, ?_⟩) (by assumption) ?_; rotate_left
      · intro w' hSw; (try dsimp only at hSw); go_simp; (try (with_reducible rfl)); done
      refine wpAnyH_take (i := 5) (v := ?_) rfl (by kernel_rfl) (by kernel_rfl) (by kernel_rfl) (fun _ _ _ h => h) (Or.inl ⟨by rfl, ?_⟩) (by assumption) ?_; rotate_left
      · intro w' hSw; (try dsimp only at hSw); go_simp; (try (with_reducible rfl)); done
      refine wpAnyH_take (i := 6) (v := ?_) rfl (by kernel_rfl) (by kernel_rfl) (by kernel_rfl) (fun _ _ _ h => h) (Or.inl ⟨by rfl, ?_⟩) (by assumption) ?_; rotate_left
      · intro w' hSw; (try dsimp only at hSw); go_simp; (try (with_reducible rfl)); done
      refine wpAnyH_take (i := 7) (v := ?_) rfl (by kernel_rfl) (by kernel_rfl) (by kernel_rfl) (fun _ _ _ h => h) (Or.inl ⟨by rfl, ?_⟩) (by assumption) ?_; rotate_left
      · intro w' hSw; (try dsimp only at hSw); go_simp; (try (with_reducible rfl)); done
      refine wpAnyH_ready (rs := [4]) (by kernel_rfl) (by simp) ?_
      refine AllReadyH.cons rfl (fun K hK => ?_) AllReadyH.nil
      go_simp
      refine hK.out _ _ v0 (fun hS => ?_)
      clear hK K
      refine wpAnyH_ready (rs := [8]) (by kernel_rfl) (by simp) ?_
      refine AllReadyH.cons rfl (fun K hK => ?_) AllReadyH.nil
      go_simp
      (with_reducible refine hDEL.out.mono ?_)
      rintro e w2 ⟨rfl, hO2, hG2⟩
      have hbg := HOW.out n gr rfl
      have hk2 : ∀ k, k < W.heap.size → k ≠ gr → w2.heap[k]? = W.heap[k]? := fun k hk hne => hG2.block k hk (fun e => hne (Option.some.inj e))
      have v02 : w2.cell? ⟨w.heap.size, 0, none⟩ = some (.pointer (some ⟨b, 0, none⟩)) := (World.cell?_of_block (a := ⟨w.heap.size, 0, none⟩) (hk2 _ (by simp; omega) (by simp; omega))).trans v0
      have c42 : w2.cell? ⟨b, 4, none⟩ = some (.slice (some ⟨gr, 0, none⟩) n c) := (World.cell?_of_block (a := ⟨b, 4, none⟩) (hk2 _ (by simp; omega) (by simp; omega))).trans c4
      have f42 : w2.frozen? ⟨b, 4, none⟩ = false := (World.frozen?_of_block (a := ⟨b, 4, none⟩) (hk2 _ (by simp; omega) (by simp; omega))).trans f4
      refine hK.out _ _ v02 (fun hS => ?_)
      clear hK K
      refine wpAnyH_take (i := 9) (v := ?_) rfl (by kernel_rfl) (by kernel_rfl) (by kernel_rfl) (fun _ _ _ h => h) (Or.inl ⟨by rfl, ?_⟩) (by assumption) ?_; rotate_left
      · intro w' hSw; (try dsimp only at hSw); go_simp; (try (with_reducible rfl)); done
      refine wpAnyH_take (i := 10) (v := ?_) rfl (by kernel_rfl) (by kernel_rfl) (by kernel_rfl) (fun _ _ _ h => h) (Or.inl ⟨by rfl, ?_⟩) (by assumption) ?_; rotate_left
      · intro w' hSw; (try dsimp only at hSw); go_simp; (try (with_reducible rfl)); done
      refine wpAnyH_ready (rs := [11]) (by kernel_rfl) (by simp) ?_
      refine AllReadyH.cons rfl (fun K hK => ?_) AllReadyH.nil
      go_simp
      have hP3 := HPW.out.drew.row hG2 hO2
      have hM3 : Mod (TakeS w.heap.size b m (.slice (some ⟨gr, 0, none⟩) n c)) W0 (w2.setCell ⟨b, 4, none⟩ (.slice (some ⟨gr, 0, none⟩) (n - 1) c)) := ((HMS.out.drew.grown hG2 (fun k hk _ => .inl (.inr (.inr hk)))).setCell (fun _ => .inl (.inl rfl)) _)
      have hM3W : Mod (TakeS w.heap.size b m (.slice (some ⟨gr, 0, none⟩) n c)) W (w2.setCell ⟨b, 4, none⟩ (.slice (some ⟨gr, 0, none⟩) (n - 1) c)) := (((Mod.refl _ W).drew.grown hG2 (fun k hk _ => .inl (.inr (.inr hk)))).setCell (fun _ => .inl (.inl rfl)) _)
      have hk3 : ∀ k, k < W.heap.size → k ≠ gr → k ≠ b → (w2.setCell ⟨b, 4, none⟩ (.slice (some ⟨gr, 0, none⟩) (n - 1) c)).heap[k]? = W.heap[k]? := fun k hk hne hnb => (Below.heap_setCell _ _ _ _ hnb).trans (hk2 k hk hne)
      generalize w2.setCell ⟨b, 4, none⟩ (.slice (some ⟨gr, 0, none⟩) (n - 1) c) = W3 at *
      have v03 : W3.cell? ⟨w.heap.size, 0, none⟩ = some (.pointer (some ⟨b, 0, none⟩)) := (World.cell?_of_block (a := ⟨w.heap.size, 0, none⟩) (hk3 _ (by simp; omega) (by simp; omega) (by simp; omega))).trans v0
      refine hK.out _ _ v03 (fun hS => wpAnyH_done (by kernel_rfl) (Only.normal ?_) _)
      clear hK K
      have hid := HID.out _ (getD_mem (j := x) (by rw [HNL.out]; exact hx))
      rw [HY.out] at hid
      simp only at hid
      have hkey := Maps.keyOf_int_mk Tryd.underlying3 (WalkArith.wf_i64 (show -9223372036854775808 ≤ xi ∧ xi ≤ 9223372036854775807 by omega))
      obtain ⟨W4, hrun4, hm4, hg4⟩ := run_put 73 3 9 law Tryd.underlying73 m (encB B) hP3.map.drew (by rw [encB_len]; omega) _ (.string t) _ hkey trivial
      rw [putA_encB] at hm4
      have hP4 := Lib.hid (hP3.drew.put hg4 hm4)
      have hM4 := Lib.hid (hM3.drew.grown hg4 (fun k hk _ => .inl (.inr (.inl (Option.some.inj hk).symm))))
      have hM4W := Lib.hid (hM3W.drew.grown hg4 (fun k hk _ => .inl (.inr (.inl (Option.some.inj hk).symm))))
      have hs3 := hM3W.size
      have hk4 : ∀ k, k < W.heap.size → k ≠ gr → k ≠ b → k ≠ m → W4.heap[k]? = W.heap[k]? := fun k hk h1 h2 h3 => (hg4.block k (by show k < W3.heap.size; omega) (fun e => h3 (Option.some.inj e))).trans (hk3 k hk h1 h2)
      have hV4 := HVW.out.keep (W' := W4) (fun k h1 h2 => hk4 k (by omega) (by omega) (by omega) (by omega))
      have c33 := hP3.c3
      have v13 : W3.cell? ⟨w.heap.size + 1, 0, none⟩ = some (.string t) := (World.cell?_of_block (a := ⟨w.heap.size + 1, 0, none⟩) (hk3 _ (by simp; omega) (by simp; omega) (by simp; omega))).trans v1
      have d03 : W3.cell? ⟨g, 0, none⟩ = some (.int .i64 xi) := (World.cell?_of_block (a := ⟨g, 0, none⟩) (hk3 _ hgsz (by simp; omega) (by simp; omega))).trans d0
      have d04 : W4.cell? ⟨g, 0, none⟩ = some (.int .i64 xi) := (World.cell?_of_block (a := ⟨g, 0, none⟩) (hk4 _ hgsz (by simp; omega) (by simp; omega) (by simp; omega))).trans d0
      have v04 : W4.cell? ⟨w.heap.size, 0, none⟩ = some (.pointer (some ⟨b, 0, none⟩)) := hV4.p
      have HV4 := Lib.hid hV4
      obtain ⟨_, e0, e1, e2, e3, e4, e5, e6⟩ := hV4
      have HK4 := Lib.hid hk4
      have HR4 := Lib.hid hrun4
      clear hk4 hk3 hk2 hS v02 c42 f42 hG2 hO2 hm4 hg4 hkey hP3 hM3 hM3W d0 v0 c4 f4 v1 hDEL
      gi_wp2
      have hrun4 := HR4.out
      refine wpIn_region_held (fun W' => W'.cell? ⟨w.heap.size, 0, none⟩ = some (.pointer (some ⟨b, 0, none⟩)) ∧ W'.cell? ⟨b, 3, none⟩ = some (.map (some m)) ∧ W'.cell? ⟨g, 0, none⟩ = some (.int .i64 xi) ∧ W'.cell? ⟨w.heap.size + 1, 0, none⟩ = some (.string t)) (by kernel_rfl) (by kernel_rfl) ⟨v03, c33, d03, v13⟩ (fun hS => ?_)
      refine wpAnyH_take (i := 0) (v := ?_) rfl (by kernel_rfl) (by kernel_rfl) (by kernel_rfl) (fun _ _ _ h => h) (Or.inl ⟨by rfl, ?_⟩) (by assumption) ?_; rotate_left
      · intro w' hSw; (try dsimp only at hSw); obtain ⟨g1, g2, g3, g4⟩ := hSw; go_simp; (try (with_reducible rfl)); done
      refine wpAnyH_take (i := 1) (v := ?_) rfl (by kernel_rfl) (by kernel_rfl) (by kernel_rfl) (fun _ _ _ h => h) (Or.inl ⟨by rfl, ?_⟩) (by assumption) ?_; rotate_left
      · intro w' hSw; (try dsimp only at hSw); obtain ⟨g1, g2, g3, g4⟩ := hSw; go_simp; (try (with_reducible rfl)); done
      refine wpAnyH_take (i := 2) (v := ?_) rfl (by kernel_rfl) (by kernel_rfl) (by kernel_rfl) (fun _ _ _ h => h) (Or.inl ⟨by rfl, ?_⟩) (by assumption) ?_; rotate_left
      · intro w' hSw; (try dsimp only at hSw); obtain ⟨g1, g2, g3, g4⟩ := hSw; go_simp; (try (with_reducible rfl)); done
      refine wpAnyH_take (i := 3) (v := ?_) rfl (by kernel_rfl) (by kernel_rfl) (by kernel_rfl) (fun _ _ _ h => h) (Or.inl ⟨by rfl, ?_⟩) (by assumption) ?_; rotate_left
      · intro w' hSw; (try dsimp only at hSw); obtain ⟨g1, g2, g3, g4⟩ := hSw; go_simp; (try (with_reducible rfl)); done
      refine wpAnyH_take (i := 4) (v := ?_) rfl (by kernel_rfl) (by kernel_rfl) (by kernel_rfl) (fun _ _ _ h => h) (Or.inl ⟨by rfl, ?_⟩) (by assumption) ?_; rotate_left
      · intro w' hSw; (try dsimp only at hSw); obtain ⟨g1, g2, g3, g4⟩ := hSw; go_simp; (try (with_reducible rfl)); done
      refine wpAnyH_take (i := 5) (v := ?_) rfl (by kernel_rfl) (by kernel_rfl) (by kernel_rfl) (fun _ _ _ h => h) (Or.inl ⟨by rfl, ?_⟩) (by assumption) ?_; rotate_left
      · intro w' hSw; (try dsimp only at hSw); obtain ⟨g1, g2, g3, g4⟩ := hSw; go_simp; (try (with_reducible rfl)); done
      refine wpAnyH_take (i := 6) (v := ?_) rfl (by kernel_rfl) (by kernel_rfl) (by kernel_rfl) (fun _ _ _ h => h) (Or.inl ⟨by rfl, ?_⟩) (by assumption) ?_; rotate_left
      · intro w' hSw; (try dsimp only at hSw); obtain ⟨g1, g2, g3, g4⟩ := hSw; go_simp; (try (with_reducible rfl)); done
      refine wpAnyH_ready (rs := [7]) (by kernel_rfl) (by simp) ?_
      refine AllReadyH.cons rfl (fun K hK => ?_) AllReadyH.nil
      go_simp
      refine hK.out _ _ ⟨v04, hP4.out.c3, d04, e0⟩ (fun hS => wpAnyH_done (by kernel_rfl) (Only.normal ?_) _)
      clear hK K hS hrun4 HR4
      have hbd := HOW.out (n - 1) gr rfl
      gi_wp2
      refine ⟨⟨(vars_set_mod hM4W.out).size, fun k o hk ho hc => ?_⟩, rfl, pre, ⟨x, hx⟩, rfl, HIP.out, ?_, ?_, ?_, vars_set_mod hM4.out⟩
      · refine ((vars_set_mod hM4W.out).block k (Array.getElem?_eq_some_iff.1 ho).1 ?_).trans ho
        rintro ((h | h | h) | h)
        · omega
        · omega
        · have := (HOW.out n k h).2; omega
        · omega
      · show isTo t (L.getD x default) = true
        rw [HY.out]; exact he
      · show Vars _ _ b t (.int .i64 (L.getD x default).id) _ _
        rw [HY.out]; exact vars_set HV4.out
      · show IsPool _ b m many last now (putB B (L.getD x default).id t) _ _
        rw [HY.out]
        exact hP4.out.of_blocks (vars_set_blocks (by omega)) (vars_set_blocks (by omega)) (fun k hk => vars_set_blocks (by have := (HOW.out _ k hk).2; omega))
  case done =>
    rintro D ys W hD hys ⟨hIp, hIB⟩ hK
    have hno : ∀ j, j < n → isTo t (L.getD j default) = false := fun j hj => by obtain ⟨y, hy, e⟩ := comes_all hys hj; rw [← e]; exact hIp y hy
    have hPW := hP2.below hIB
    have hVW := hV2.keep (W' := W) (fun k _ h2 => hIB.block k (by omega))
    have hMW : Mod (TakeS w.heap.size b m (.slice a n c)) w W := Mod.ofBelow (hB2.trans (hIB.mono (by omega))) (fun k h1 h2 => by omega)
    have hDW := (Array.getElem?_eq_some_iff.1 hK).1
    have HK := Lib.hid hK
    have HD := Lib.hid hD
    have HNO := Lib.hid hno
    clear hK hno hys hIp hst hP2 hV2 hB2 hcell
    have v0 := hVW.p
    have c0 := hPW.c0
    have c3 := hPW.c3
    have c4 := hPW.c4
    have hlen := run_len 73 3 9 Tryd.underlying73 m (encB B) hPW.map.drew
    rw [encB_len] at hlen
    have HPW := Lib.hid hPW
    have HVW := Lib.hid hVW
    have HMW := Lib.hid hMW
    clear hPW hVW hMW hIB
    have q1 : IntKind.i64.wrap ((B.length : Int) + (n : Int)) = (B.length : Int) + (n : Int) := IntWalk.i64_in _ (by omega)
    go_wp2_with fail
    have hDD := HD.out
    have hDb : w.heap.size + 6 ≤ D := by omega
    by_cases hfull : many ≤ (B.length : Int) + (n : Int)
    · have t1 : decide (many ≤ (B.length : Int) + (n : Int)) = true := decide_eq_true hfull
      by_cases h0 : n = 0
      · subst h0
        have t2 : decide (many ≤ (B.length : Int)) = true := decide_eq_true (by omega)
        have q2 : IntKind.i64.wrap (B.length : Int) = (B.length : Int) := IntWalk.i64_in _ (by omega)
        go_region_held3 (fun w' => w'.cell? ⟨w.heap.size, 0, none⟩ = some (.pointer (some ⟨b, 0, none⟩)) ∧ w'.cell? ⟨b, 0, none⟩ = some (.int .i64 many) ∧ w'.cell? ⟨b, 3, none⟩ = some (.map (some m)) ∧ w'.cell? ⟨b, 4, none⟩ = some (.slice a 0 c) ∧ ∀ ty, (Builtin.len_ #[73] ty #[.map (some m)]).run Tryd.prog w' = .ok (.int .i64 B.length) w') (first | assumption | exact ⟨v0, c0, c3, c4, hlen⟩) (fail)
        obtain ⟨_, e0, e1, e2, e3, e4, e5, e6⟩ := HVW.out
        go_wp2_with fail
        obtain ⟨hKf, hend⟩ := take_end (W := W.drew) (r' := .int .i64 0) (f' := .bool false) (e' := .iface 72 (.int .i64 4)) hbw hmw (fun k hk => (HOW.out _ k hk).2) (by omega) HK.out (HVW.out.keep (fun _ _ _ => rfl)) HPW.out.drew HMW.out.drew
        obtain ⟨hVf, hPf, hMf⟩ := hend _ rfl
        refine ⟨by simp, .inl ⟨_, _, rfl, run_takeDeferred hKf, ?_⟩⟩
        exact ⟨_, results_cell3 rfl rfl rfl rfl (load_of Tryd.isAgg3 hVf.r) (load_of Tryd.isAgg4 hVf.f) (load_of Tryd.isAgg25 hVf.e), hMf, .inr ⟨HNO.out, .inl ⟨by omega, rfl, rfl, hPf⟩⟩⟩
      · obtain rfl := HGR.out (by omega)
        have t2 : ((n : Int) == 0) = false := beq_eq_false_iff_ne.2 (by omega)
        go_region_held3 (fun w' => w'.cell? ⟨w.heap.size, 0, none⟩ = some (.pointer (some ⟨b, 0, none⟩)) ∧ w'.cell? ⟨b, 0, none⟩ = some (.int .i64 many) ∧ w'.cell? ⟨b, 3, none⟩ = some (.map (some m)) ∧ w'.cell? ⟨b, 4, none⟩ = some (.slice (some ⟨gr, 0, none⟩) n c) ∧ ∀ ty, (Builtin.len_ #[73] ty #[.map (some m)]).run Tryd.prog w' = .ok (.int .i64 B.length) w') (first | assumption | exact ⟨v0, c0, c3, c4, hlen⟩) (fail)
        have hDEL : Hid (Calls Tryd.prog 28 #[.slice (some ⟨gr, 0, none⟩) n c, .int .i64 0, .int .i64 1] W.drew.drew fun e w' => e = .returned (.slice (some ⟨gr, 0, none⟩) (n - 1) c) ∧ RowsK.Own encL w' (b + 1) 82 (.slice (some ⟨gr, 0, none⟩) (n - 1) c) (L.take 0 ++ L.drop (0 + 1)) ∧ W.drew.drew.grownBy w' (some gr)) := delete1 (b + 1) gr c n 0 L W.drew.drew HPW.out.drew.drew.own HNL.out (by omega) (by omega)
        go_wp2_with fail
        have c4 : W.drew.cell? ⟨b, 4, none⟩ = some (.slice (some ⟨gr, 0, none⟩) n c) := HPW.out.c4
        have f4 : W.drew.frozen? ⟨b, 4, none⟩ = false := HPW.out.thaw 4
        refine wp_region_only (fun W' => W'.cell? ⟨w.heap.size, 0, none⟩ = some (.pointer (some ⟨b, 0, none⟩))) (by kernel_rfl) v0 (fun hS => ?_)
        refine wpAnyH_take (i := 0) (v := ?_) rfl (by kernel_rfl) (by kernel_rfl) (by kernel_rfl) (fun _ _ _ h => h) (Or.inl ⟨by rfl, ?_⟩) (by assumption) ?_; rotate_left
        · intro w' hSw; (try dsimp only at hSw); go_simp; (try (with_reducible rfl)); done
        refine wpAnyH_take (i := 1) (v := ?_) rfl (by kernel_rfl) (by kernel_rfl) (by kernel_rfl) (fun _ _ _ h => h) (Or.inl ⟨by rfl, ?_⟩) (by assumption) ?_; rotate_left
        · intro w' hSw; (try dsimp only at hSw); go_simp; (try (with_reducible rfl)); done
        refine wpAnyH_take (i := 2) (v := ?_) rfl (by kernel_rfl) (by kernel_rfl) (by kernel_rfl) (fun _ _ _ h => h) (Or.inl ⟨by rfl, ?_⟩) (by assumption) ?_; rotate_left
        · intro w' hSw; (try dsimp only at hSw); go_simp; (try (with_reducible rfl)); done
        refine wpAnyH_take (i := 3) (v := ?_) rfl (by kernel_rfl) (by kernel_rfl) (by kernel_rfl) (fun _ _ _ h => h) (Or.inl ⟨by rfl, ?_⟩) (by assumption) ?_; rotate_left
        · intro w' hSw; (try dsimp only at hSw); go_simp; (try (with_reducible rfl)); done
        refine wpAnyH_ready (rs := [4]) (by kernel_rfl) (by simp) ?_
        refine AllReadyH.cons rfl (fun K hK => ?_) AllReadyH.nil
        go_simp
        refine hK.out _ _ v0 (fun hS => ?_)
        clear hK K
        refine wpAnyH_ready (rs := [5]) (by kernel_rfl) (by simp) ?_
        refine AllReadyH.cons rfl (fun K hK => ?_) AllReadyH.nil
        go_simp
        (with_reducible refine hDEL.out.mono ?_)
        rintro e w2 ⟨rfl, hO2, hG2⟩
        have hbg := HOW.out n gr rfl
        have hws := HMW.out.size
        have hk2 : ∀ k, k < W.heap.size → k ≠ gr → w2.heap[k]? = W.heap[k]? := fun k hk hne => hG2.block k hk (fun e => hne (Option.some.inj e))
        have v02 : w2.cell? ⟨w.heap.size, 0, none⟩ = some (.pointer (some ⟨b, 0, none⟩)) := (World.cell?_of_block (a := ⟨w.heap.size, 0, none⟩) (hk2 _ (by simp; omega) (by simp; omega))).trans v0
        have c42 : w2.cell? ⟨b, 4, none⟩ = some (.slice (some ⟨gr, 0, none⟩) n c) := (World.cell?_of_block (a := ⟨b, 4, none⟩) (hk2 _ (by simp; omega) (by simp; omega))).trans c4
        have f42 : w2.frozen? ⟨b, 4, none⟩ = false := (World.frozen?_of_block (a := ⟨b, 4, none⟩) (hk2 _ (by simp; omega) (by simp; omega))).trans f4
        refine hK.out _ _ v02 (fun hS => ?_)
        clear hK K
        refine wpAnyH_take (i := 6) (v := ?_) rfl (by kernel_rfl) (by kernel_rfl) (by kernel_rfl) (fun _ _ _ h => h) (Or.inl ⟨by rfl, ?_⟩) (by assumption) ?_; rotate_left
        · intro w' hSw; (try dsimp only at hSw); go_simp; (try (with_reducible rfl)); done
        refine wpAnyH_take (i := 7) (v := ?_) rfl (by kernel_rfl) (by kernel_rfl) (by kernel_rfl) (fun _ _ _ h => h) (Or.inl ⟨by rfl, ?_⟩) (by assumption) ?_; rotate_left
        · intro w' hSw; (try dsimp only at hSw); go_simp; (try (with_reducible rfl)); done
        refine wpAnyH_ready (rs := [8]) (by kernel_rfl) (by simp) ?_
        refine AllReadyH.cons rfl (fun K hK => ?_) AllReadyH.nil
        go_simp
        have hP3 := HPW.out.drew.drew.row hG2 hO2
        have hM3 := (HMW.out.drew.drew.grown hG2 (fun k hk _ => .inl (.inr (.inr hk)))).setCell (p := ⟨b, 4, none⟩) (fun _ => .inl (.inl rfl)) (.slice (some ⟨gr, 0, none⟩) (n - 1) c)
        have hk3 : ∀ k, k < W.heap.size → k ≠ gr → k ≠ b → (w2.setCell ⟨b, 4, none⟩ (.slice (some ⟨gr, 0, none⟩) (n - 1) c)).heap[k]? = W.heap[k]? := fun k hk hne hnb => (Below.heap_setCell _ _ _ _ hnb).trans (hk2 k hk hne)
        generalize w2.setCell ⟨b, 4, none⟩ (.slice (some ⟨gr, 0, none⟩) (n - 1) c) = W2 at *
        have hP2 : IsPool W2 b m many last now B (.slice (some ⟨gr, 0, none⟩) (n - 1) c) (L.drop 1) := hP3
        have hV2 := HVW.out.keep (W' := W2) (fun k h1 h2 => hk3 k (by omega) (by omega) (by omega))
        have hM2 := hM3
        have HK2 : Hid (W2.heap[D]? = some (.deferred (some []))) := (hk3 D hDW (by omega) (by omega)).trans HK.out
        refine hK.out _ _ hV2.p (fun hS => wpAnyH_done (by kernel_rfl) (Only.normal ?_) _)
        clear hK K hS hP3 hM3 hk3 hk2 hG2 hO2 v02 c42 f42 HPW HVW HMW HK v0 c0 c3 c4 f4 hlen hDEL
        have v02 := hV2.p
        have c12 := hP2.c1
        have f12 := hP2.thaw 1
        have HP2 := Lib.hid hP2
        have HV2 := Lib.hid hV2
        have HM2 := Lib.hid hM2
        clear hP2 hV2 hM2
        go_wp2_with fail
        have hP3 := HP2.out.last (last + 1)
        have hV3 := HV2.out.keep (W' := W2.setCell ⟨b, 1, none⟩ (.int .i64 (last + 1))) (fun k h1 h2 => Below.heap_setCell _ _ _ _ (by simp; omega))
        have hM3 := HM2.out.setCell (p := ⟨b, 1, none⟩) (fun _ => .inl (.inl rfl)) (.int .i64 (last + 1))
        have hK3 := (Below.heap_setCell W2 ⟨b, 1, none⟩ (.int .i64 (last + 1)) D (by simp; omega)).trans HK2.out
        clear HP2 HV2 HM2 HK2 v02 c12 f12
        generalize W2.setCell ⟨b, 1, none⟩ (.int .i64 (last + 1)) = W3 at *
        have hkey := Maps.keyOf_int_mk Tryd.underlying3 (WalkArith.wf_i64 (show -9223372036854775808 ≤ last + 1 ∧ last + 1 ≤ 9223372036854775807 by omega))
        obtain ⟨W4, hrun4, hm4, hg4⟩ := run_put 73 3 9 law Tryd.underlying73 m (encB B) hP3.map.drew (by rw [encB_len]; omega) _ (.string t) _ hkey trivial
        rw [putA_encB] at hm4
        have hP4 := hP3.drew.put hg4 hm4
        have hM4 := hM3.drew.grown hg4 (fun k hk _ => .inl (.inr (.inl (Option.some.inj hk).symm)))
        have hs3 := (Array.getElem?_eq_some_iff.1 hK3).1
        have hk4 : ∀ k, k < W3.heap.size → k ≠ m → W4.heap[k]? = W3.heap[k]? := fun k hk h3 => hg4.block k hk (fun e => h3 (Option.some.inj e))
        have hK4 := (hk4 D (Array.getElem?_eq_some_iff.1 hK3).1 (fun e => by omega)).trans hK3
        have hV4 := hV3.keep (W' := W4) (fun k h1 h2 => hk4 k (by omega) (by omega))
        have v03 := hV3.p
        have v13 := hV3.t
        have c13 := hP3.c1
        have c33 := hP3.c3
        have v04 := hV4.p
        have v14 := hV4.t
        have c14 := hP4.c1
        have c34 := hP4.c3
        have HV4 := Lib.hid hV4
        have HP4 := Lib.hid hP4
        have HM4 := Lib.hid hM4
        have HK4 := Lib.hid hK4
        clear hP3 hV3 hM3 hK3 hkey hm4 hg4 hk4 hV4 hP4 hM4 hK4
        go_region_held3 (fun w' => w'.cell? ⟨w.heap.size, 0, none⟩ = some (.pointer (some ⟨b, 0, none⟩)) ∧ w'.cell? ⟨w.heap.size + 1, 0, none⟩ = some (.string t) ∧ w'.cell? ⟨b, 1, none⟩ = some (.int .i64 (last + 1)) ∧ w'.cell? ⟨b, 3, none⟩ = some (.map (some m))) (first | exact ⟨v03, v13, c13, c33⟩ | exact ⟨v04, v14, c14, c34⟩) (fail)
        clear v03 v13 c13 c33 hrun4
        obtain ⟨_, e0, e1, e2, e3, e4, e5, e6⟩ := HV4.out
        go_wp2_with fail
        obtain ⟨hKf, hend⟩ := take_end (r' := .int .i64 (last + 1)) (f' := .bool true) (e' := .nilIface) hbw hmw (fun k hk => (HOW.out _ k hk).2) (by omega) HK4.out HV4.out HP4.out HM4.out
        obtain ⟨hVf, hPf, hMf⟩ := hend _ rfl
        refine ⟨by simp, .inl ⟨_, _, rfl, run_takeDeferred hKf, ?_⟩⟩
        exact ⟨_, results_cell3 rfl rfl rfl rfl (load_of Tryd.isAgg3 hVf.r) (load_of Tryd.isAgg4 hVf.f) (load_of Tryd.isAgg25 hVf.e), hMf, .inr ⟨HNO.out, .inr ⟨rfl, .inl ⟨by omega, by omega, hPf⟩⟩⟩⟩
    · have t1 : decide (many ≤ (B.length : Int) + (n : Int)) = false := decide_eq_false hfull
      go_region_held3 (fun w' => w'.cell? ⟨w.heap.size, 0, none⟩ = some (.pointer (some ⟨b, 0, none⟩)) ∧ w'.cell? ⟨b, 0, none⟩ = some (.int .i64 many) ∧ w'.cell? ⟨b, 3, none⟩ = some (.map (some m)) ∧ w'.cell? ⟨b, 4, none⟩ = some (.slice a n c) ∧ ∀ ty, (Builtin.len_ #[73] ty #[.map (some m)]).run Tryd.prog w' = .ok (.int .i64 B.length) w') (first | assumption | exact ⟨v0, c0, c3, c4, hlen⟩) (fail)
      obtain ⟨hP2, hV2, hM2, HK2⟩ : IsPool W.drew b m many last now B (.slice a n c) L ∧ Vars W.drew w.heap.size b t (.int .i64 0) (.bool false) .nilIface ∧ Mod (TakeS w.heap.size b m (.slice a n c)) w W.drew ∧ Hid (W.drew.heap[D]? = some (.deferred (some []))) := ⟨HPW.out.drew, HVW.out.keep (fun _ _ _ => rfl), HMW.out.drew, HK.out⟩
      clear HPW HVW HMW HK v0 c0 c3 c4 hlen
      generalize W.drew = W2 at *
      have v02 := hV2.p
      have c12 := hP2.c1
      have f12 := hP2.thaw 1
      have HP2 := Lib.hid hP2
      have HV2 := Lib.hid hV2
      have HM2 := Lib.hid hM2
      clear hP2 hV2 hM2
      go_wp2_with fail
      have hP3 := HP2.out.last (last + 1)
      have hV3 := HV2.out.keep (W' := W2.setCell ⟨b, 1, none⟩ (.int .i64 (last + 1))) (fun k h1 h2 => Below.heap_setCell _ _ _ _ (by simp; omega))
      have hM3 := HM2.out.setCell (p := ⟨b, 1, none⟩) (fun _ => .inl (.inl rfl)) (.int .i64 (last + 1))
      have hK3 := (Below.heap_setCell W2 ⟨b, 1, none⟩ (.int .i64 (last + 1)) D (by simp; omega)).trans HK2.out
      clear HP2 HV2 HM2 HK2 v02 c12 f12
      generalize W2.setCell ⟨b, 1, none⟩ (.int .i64 (last + 1)) = W3 at *
      have hkey := Maps.keyOf_int_mk Tryd.underlying3 (WalkArith.wf_i64 (show -9223372036854775808 ≤ last + 1 ∧ last + 1 ≤ 9223372036854775807 by omega))
      obtain ⟨W4, hrun4, hm4, hg4⟩ := run_put 73 3 9 law Tryd.underlying73 m (encB B) hP3.map.drew (by rw [encB_len]; omega) _ (.string t) _ hkey trivial
      rw [putA_encB] at hm4
      have hP4 := hP3.drew.put hg4 hm4
      have hM4 := hM3.drew.grown hg4 (fun k hk _ => .inl (.inr (.inl (Option.some.inj hk).symm)))
      have hs3 := (Array.getElem?_eq_some_iff.1 hK3).1
      have hk4 : ∀ k, k < W3.heap.size → k ≠ m → W4.heap[k]? = W3.heap[k]? := fun k hk h3 => hg4.block k hk (fun e => h3 (Option.some.inj e))
      have hK4 := (hk4 D (Array.getElem?_eq_some_iff.1 hK3).1 (fun e => by omega)).trans hK3
      have hV4 := hV3.keep (W' := W4) (fun k h1 h2 => hk4 k (by omega) (by omega))
      have v03 := hV3.p
      have v13 := hV3.t
      have c13 := hP3.c1
      have c33 := hP3.c3
      have v04 := hV4.p
      have v14 := hV4.t
      have c14 := hP4.c1
      have c34 := hP4.c3
      have HV4 := Lib.hid hV4
      have HP4 := Lib.hid hP4
      have HM4 := Lib.hid hM4
      have HK4 := Lib.hid hK4
      clear hP3 hV3 hM3 hK3 hkey hm4 hg4 hk4 hV4 hP4 hM4 hK4
      go_region_held3 (fun w' => w'.cell? ⟨w.heap.size, 0, none⟩ = some (.pointer (some ⟨b, 0, none⟩)) ∧ w'.cell? ⟨w.heap.size + 1, 0, none⟩ = some (.string t) ∧ w'.cell? ⟨b, 1, none⟩ = some (.int .i64 (last + 1)) ∧ w'.cell? ⟨b, 3, none⟩ = some (.map (some m))) (first | exact ⟨v03, v13, c13, c33⟩ | exact ⟨v04, v14, c14, c34⟩) (fail)
      clear v03 v13 c13 c33 hrun4
      obtain ⟨_, e0, e1, e2, e3, e4, e5, e6⟩ := HV4.out
      go_wp2_with fail
      obtain ⟨hKf, hend⟩ := take_end (r' := .int .i64 (last + 1)) (f' := .bool true) (e' := .nilIface) hbw hmw (fun k hk => (HOW.out _ k hk).2) (by omega) HK4.out HV4.out HP4.out HM4.out
      obtain ⟨hVf, hPf, hMf⟩ := hend _ rfl
      refine ⟨by simp, .inl ⟨_, _, rfl, run_takeDeferred hKf, ?_⟩⟩
      exact ⟨_, results_cell3 rfl rfl rfl rfl (load_of Tryd.isAgg3 hVf.r) (load_of Tryd.isAgg4 hVf.f) (load_of Tryd.isAgg25 hVf.e), hMf, .inr ⟨HNO.out, .inr ⟨rfl, .inr ⟨by omega, hPf⟩⟩⟩⟩
  case stop =>
    rintro D c1 pre W hD ⟨k, hk, hmap⟩ ⟨rfl, q, i, hpre, hq, hi, hV, hP, hM⟩ hK
    refine wpIn_ret ?_
    have hPB := belowK_b (w := W0) (Nat.le_refl _) W D _ (.deferred none) hD hK rfl rfl
    have hV' := hV.keep (W' := W.putObj D (.deferred none)) (fun k _ h2 => hPB.block k (by omega))
    have hP' := hP.of_blocks (w' := W.putObj D (.deferred none)) (hPB.block b (by omega)) (hPB.block m (by omega)) (fun k hk => hPB.block k (by have := (HOW.out _ k hk).2; omega))
    have hM' : Mod (PoolS b m (.slice a n c)) w (W.putObj D (.deferred none)) := ((Mod.ofBelow (S := PoolS b m (.slice a n c)) hB2 (fun k h1 h2 => by omega)).andThen hM (fun k hk h => h.resolve_right (by omega))).below hPB (fun k h1 h2 => by omega)
    refine ⟨by simp, .inl ⟨_, _, rfl, run_takeDeferred hK, ?_⟩⟩
    refine ⟨_, results_cell3 rfl rfl rfl rfl (load_of Tryd.isAgg3 hV'.r) (load_of Tryd.isAgg4 hV'.f) (load_of Tryd.isAgg25 hV'.e), hM', .inl ⟨i.1, i.2, fun j h1 h2 => ?_, hi, rfl, hP'⟩⟩
    rw [hpre] at hmap
    obtain ⟨y, hy, e⟩ := comes_last hmap h1 h2
    rw [← e]; exact hq y hy
end Go.Proofs.YtcdhjbeeehjpiaaDoor.PoolC
