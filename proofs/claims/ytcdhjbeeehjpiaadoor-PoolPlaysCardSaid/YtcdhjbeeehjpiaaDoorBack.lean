/-
  slices.Backward of links over this seat's translation: each element with its place, the last first.
  Conditions: the length.
-/
import Derived.RangeFuncBox
import Derived.RangeFuncLeaves
import Derived.RangeFuncNested
import Derived.RangeFuncBound
import Derived.RangeFuncCalls
import Derived.Shelf.Abstract
import Derived.WalkKit
import Derived.OwnWalkIn
import Derived.TacticsInMore
import Derived.LoopNIn
import Derived.LoopIn
import Derived.IntWalk
import Derived.Lib.Hide
import Derived.Test.YtcdhjbeeehjpiaaDoorProg
import Derived.Test.YtcdhjbeeehjpiaaDoorRowsK
namespace Go.Proofs.YtcdhjbeeehjpiaaDoor.Back
open Go.RowKit Go.Shelf RowsK
set_option linter.unusedVariables false
set_option linter.unusedSimpArgs false

attribute [local go_sem] Oper.semAt_some

/-- A link: its number, when it came back, whereto. -/
structure Link where
  id : Int
  at_ : Int
  to : ByteArray
instance : Inhabited Link := ⟨⟨0, 0, ⟨#[]⟩⟩⟩
def encL : Enc Link := ⟨3, fun x => [.int .i64 x.id, .int .i64 x.at_, .string x.to], fun _ => rfl, fun x v hv => by simp at hv; rcases hv with rfl | rfl | rfl <;> rfl, by decide⟩
theorem elemL : Elem Tryd.prog 74 82 encL.k 32 := Elem.of (z := .agg #[.int .i64 0, .int .i64 0, .string ⟨#[]⟩]) Tryd.underlying74 (by kernel_rfl) rfl (by decide)
theorem back_any (a : Option Addr) (len cap : Nat) (w : World) :
    Calls Tryd.prog 27 #[.slice a len cap] w fun e w' => e = .returned (.func (.func 50) #[] #[.pointer (some ⟨w.heap.size, 0, none⟩)]) ∧ w' = w.alloc (.cells #[.slice a len cap] 74) := by
  go_enter Tryd.func27, Tryd.ntmps27
  go_wp2
  go_ret
  exact ⟨rfl, rfl⟩
def upto {α : Type} (f : Nat → α) (k : Nat) : List α := (List.range k).map f
theorem upto_succ {α : Type} (f : Nat → α) (k : Nat) : upto f (k + 1) = upto f k ++ [f k] := by simp [upto, List.range_succ]
theorem upto_length {α : Type} (f : Nat → α) (k : Nat) : (upto f k).length = k := by simp [upto]
/-- A place in the row. -/
abbrev Pl (len : Nat) := {i : Nat // i < len}
/-- The places of the first k that come: from the last on. -/
def comes (len k : Nat) : List Nat := upto (fun j => len - 1 - j) k
theorem comes_succ (len k : Nat) : comes len (k + 1) = comes len k ++ [len - 1 - k] := upto_succ _ _
theorem comes_length (len k : Nat) : (comes len k).length = k := upto_length _ _
/-- The iterator's own variable stays, and what it reads. -/
structure KpB (Bs b off N : Nat) (W W' : World) : Prop where
  s : W'.cell? ⟨Bs, 0, none⟩ = W.cell? ⟨Bs, 0, none⟩
  e : ∀ j, j < N → W'.cell? ⟨b, off + j, none⟩ = W.cell? ⟨b, off + j, none⟩
theorem KpB.trans {Bs b off N : Nat} {A B C : World} (h : KpB Bs b off N A B) (k : KpB Bs b off N B C) : KpB Bs b off N A C := ⟨k.s.trans h.s, fun j hj => (k.e j hj).trans (h.e j hj)⟩
theorem KpB.below {Bs b off N B : Nat} {W W' : World} (h : Below B W W') (h1 : Bs < B) (h2 : b < B) : KpB Bs b off N W W' := ⟨h.cell (p := ⟨Bs, 0, none⟩) h1, fun j _ => h.cell (p := ⟨b, off + j, none⟩) h2⟩
theorem KpB.put {Bs b off N : Nat} {w : World} (h1 : Bs < w.heap.size) (h2 : b < w.heap.size) (W : World) (l : Nat) (o o' : Obj) (hl : w.heap.size ≤ l) (h : W.heap[l]? = some o) (ho : o.isCells = false) (hw : o.isWalk = false) : KpB Bs b off N W (W.putObj l o') :=
  KpB.below (belowK_b (w := w) (Nat.le_refl _) W l o o' hl h ho hw) h1 h2
set_option maxRecDepth 100000 in
set_option maxHeartbeats 2000000 in
theorem back1_in (xs : List Link) (n : Nat) (hn : 1 ≤ n) (l Bs b off len cap : Nat) (hxl : xs.length = len) (hlc : len ≤ cap ∧ cap ≤ 9223372036854775807) (J Jx : List (Pl len) → World → Prop)
    (hY : ∀ pre (x : Pl len) W, J pre W → pre.length < len → YieldAt Fence.wide (n - 1) Tryd.prog l #[.int .i64 (x.1 : Nat), .agg (encL.enc (xs.getD x.1 default)).toArray] W fun e W' =>
      (e = .returned (.bool true) ∧ J (pre ++ [x]) W' ∧ KpB Bs b off (len * 3) W W') ∨ (e = .returned (.bool false) ∧ Jx (pre ++ [x]) W'))
    (W : World) (hBs : W.cell? ⟨Bs, 0, none⟩ = some (.slice (some ⟨b, off, none⟩) len cap)) (hel : ∀ i, i < len → ∀ j, j < 3 → W.cell? ⟨b, off + (i * 3 + j), none⟩ = (encL.enc (xs.getD i default))[j]?) (h0 : J [] W) :
    CallsIn Fence.wide n Tryd.prog 50 #[.func (.yield l) #[] #[], .pointer (some ⟨Bs, 0, none⟩)] W fun e W' => (∃ v, e = .returned v) ∧
      ((∃ ys : List (Pl len), ys.map (·.1) = comes len len ∧ J ys W') ∨ (∃ pre : List (Pl len), (∃ k, k ≤ len ∧ pre.map (·.1) = comes len k) ∧ Jx pre W')) := by
  obtain ⟨hl1, hl2⟩ := hlc
  refine callsIn_of_wp Tryd.func50 rfl trivial ?_ rfl
  simp only [Tryd.ntmps50, List.size_toArray, List.length_cons, List.length_nil, Nat.reduceAdd, Nat.reduceSub, Array.replicate_succ, Array.replicate_zero, List.push_toArray, List.append_toArray, List.nil_append, List.cons_append]
  gi_wp2
  gi_loopw [3] (fun i wr => ∃ (k : Nat) (z : Int) (ys : List (Pl len)), i = .int .i64 z ∧ k ≤ len ∧ z + k + 1 = len ∧ Hid (ys.map (·.1) = comes len k) ∧ J ys wr ∧ KpB Bs b off (len * 3) W wr)
    (fun i _ => ((intOf i) + 1).toNat)
  case atStart => exact ⟨0, (len : Int) - 1, [], (by go_num), by omega, by omega, rfl, h0, ⟨rfl, fun _ _ => rfl⟩⟩
  case round =>
    obtain ⟨k, z, ys, rfl, hkl0, hz, HYS, hJs, hnx⟩ := hrel
    have c1 := hnx.s.trans hBs
    by_cases hlt : k < len
    · obtain ⟨M, rfl⟩ : ∃ M : Nat, z = (M : Int) := ⟨(len - 1 - k), by omega⟩
      have hM : M = len - 1 - k := by omega
      have hMl : M < len := by omega
      have hcell := fun j (hj : j < 3) => (hnx.e (M * 3 + j) (by omega)).trans (hel M hMl j hj)
      have hyl : ys.length < len := by have := congrArg List.length HYS.out; rw [List.length_map, comes_length] at this; omega
      have hyr := hY ys ⟨M, hMl⟩ wr hJs hyl
      simp only at hyr
      have HC := Lib.hid (show (ys ++ [(⟨M, hMl⟩ : Pl len)]).map (·.1) = comes len (k + 1) by rw [comes_succ, List.map_append, HYS.out, ← hM]; rfl)
      generalize xs.getD M default = x at hcell hyr
      obtain ⟨xi, xa, xt⟩ := x
      have d0 : wr.cell? ⟨b, off + M * 3, none⟩ = some (.int .i64 xi) := hcell 0 (by decide)
      have d1 : wr.cell? ⟨b, off + M * 3 + 1, none⟩ = some (.int .i64 xa) := by rw [Nat.add_assoc]; exact hcell 1 (by decide)
      have d2 : wr.cell? ⟨b, off + M * 3 + 2, none⟩ = some (.string xt) := by rw [Nat.add_assoc]; exact hcell 2 (by decide)
      have q0 : (0 : Int) ≤ (M : Int) := by omega
      have q1 : (M : Int) < (len : Int) := by omega
      clear hcell hel hM hyl
      obtain ⟨fn, tmps, assign, body, hy, hR⟩ := hyr
      have hy2 : (Instr.yield l #[.int .i64 (M : Nat), .agg #[.int .i64 xi, .int .i64 xa, .string xt]]).run Tryd.prog wr = .ok (.round l fn tmps assign body) wr := hy
      clear hy
      gi_wp2
      refine hR.mono ?_
      rintro e W3 (⟨rfl, hJ3, hk3⟩ | ⟨rfl, hJx3⟩)
      · gi_wp2
        go_roundw
        case rel => exact ⟨k + 1, (M : Int) - 1, _, (by go_num), by omega, by omega, HC, hJ3, hnx.trans hk3⟩
        case measure => simp [intOf]
      · gi_wp2
        refine bodyPost_ret (results_none rfl _ _ _) rfl ?_
        exact ⟨⟨_, rfl⟩, .inr ⟨_, ⟨k + 1, by omega, HC.out⟩, hJx3⟩⟩
    · have hkl : k = len := by omega
      have hzz : z = -1 := by omega
      subst hzz
      subst hkl
      gi_wp2
      go_end0
      exact ⟨⟨_, rfl⟩, .inl ⟨_, HYS.out, hJs⟩⟩
set_option maxRecDepth 100000 in
set_option maxHeartbeats 1000000 in
theorem back1_zero (n : Nat) (l Bs cap : Nat) (a : Option Addr) {α : Type} (J : List α → World → Prop) (W : World) (hBs : W.cell? ⟨Bs, 0, none⟩ = some (.slice a 0 cap)) (h0 : J [] W) :
    CallsIn Fence.wide n Tryd.prog 50 #[.func (.yield l) #[] #[], .pointer (some ⟨Bs, 0, none⟩)] W fun e W' => (∃ v, e = .returned v) ∧ J [] W' := by
  refine callsIn_of_wp Tryd.func50 rfl trivial ?_ rfl
  simp only [Tryd.ntmps50, List.size_toArray, List.length_cons, List.length_nil, Nat.reduceAdd, Nat.reduceSub, Array.replicate_succ, Array.replicate_zero, List.push_toArray, List.append_toArray, List.nil_append, List.cons_append]
  gi_wp2
  gi_loopw [3] (fun i wr => i = .int .i64 (-1) ∧ J [] wr ∧ wr = W) (fun _ _ => 0)
  case atStart => exact ⟨rfl, h0, rfl⟩
  case round =>
    obtain ⟨rfl, hJs, rfl⟩ := hrel
    gi_wp2
    go_end0
    exact ⟨⟨_, rfl⟩, hJs⟩
/-- slices.Backward(s) gives its elements with their places, the last first. -/
theorem back_stops (xs : List Link) (n : Nat) (hn : 1 ≤ n) (Bs len cap : Nat) (a : Option Addr) (b off : Nat) (w : World) (hA : At encL w (.slice a len cap) xs) (ha : 0 < len → a = some ⟨b, off, none⟩) (hBs : w.cell? ⟨Bs, 0, none⟩ = some (.slice a len cap)) :
    SeqStopsK Fence.wide n Tryd.prog 50 #[.pointer (some ⟨Bs, 0, none⟩)] (fun x : Pl len => #[.int .i64 (x.1 : Nat), .agg (encL.enc (xs.getD x.1 default)).toArray]) (KpB Bs b off (len * 3)) (fun ys => ys.map (·.1) = comes len len) (fun pre => ∃ k, k ≤ len ∧ pre.map (·.1) = comes len k) len w := fun l J Jx W hW hJ _ hY h0 => by
  have hbs := block_lt_of_cell hBs
  have hBs' := (hW.cell (p := ⟨Bs, 0, none⟩) hbs).trans hBs
  obtain ⟨a', cap', e, h1, h2, h3, hel⟩ := hA
  simp only [Value.slice.injEq] at e
  obtain ⟨rfl, rfl, rfl⟩ := e
  rcases Nat.eq_zero_or_pos xs.length with h | h
  · have hx : xs = [] := List.eq_nil_of_length_eq_zero h
    subst hx
    refine (back1_zero n l Bs cap a J W hBs' h0).mono ?_
    rintro e W' ⟨he, hj⟩
    exact ⟨he, .inl ⟨[], rfl, hj⟩⟩
  · obtain rfl := ha h
    refine (back1_in xs n hn l Bs b off xs.length cap rfl ⟨h1, h2⟩ J Jx hY W hBs' (fun i hi j hj => ?_) h0).mono ?_
    · obtain ⟨b2, o2, e, hb, hc⟩ := hel i hi
      simp only [Option.some.injEq, Addr.mk.injEq, and_true] at e
      obtain ⟨rfl, rfl⟩ := e
      rw [hW.cell (p := ⟨b, off + (i * 3 + j), none⟩) hb, List.getD_eq_getElem?_getD, List.getElem?_eq_getElem hi]
      exact hc j hj
    · rintro e W' ⟨he, hj⟩
      exact ⟨he, hj⟩
end Go.Proofs.YtcdhjbeeehjpiaaDoor.Back
