/-
  slices.Chunk of bytes over this seat's translation, and chunk.Encode: the pieces.
  Conditions: the lengths.
-/
import Derived.RangeFuncBox
import Derived.RangeFuncLeaves
import Derived.RangeFuncNested
import Derived.RangeFuncBound
import Derived.RangeFuncCalls
import Derived.Shelf.Abstract
import Derived.WalkKit
import Derived.OwnWalkIn
import Derived.TacticsInMore
import Derived.LoopNIn
import Derived.LoopIn
import Derived.Maps.AppendAt
import Derived.IntWalk
import Derived.Lib.Hide
import Derived.Sort.QuietIn
import Derived.Test.YtegngpingfjedaaGreatDoorProg
namespace Go.Proofs.YtegngpingfjedaaGreatDoor.ChunkI
open Go.RowKit Go.Shelf
set_option linter.unusedVariables false
set_option linter.unusedSimpArgs false

attribute [local go_sem] Oper.semAt_some

set_option maxHeartbeats 1000000 in
theorem chunk_in (F : Fence) (n : Nat) (h5 : F.fn 66) (hro : F.round = none) (a : Option Addr) (len cap sz : Nat) (hsz : 1 ≤ sz) (w : World) :
    CallsIn F n Tryz.prog 66 #[.slice a len cap, .int .i64 sz] w fun e w' => e = .returned (.func (.func 106) #[] #[.pointer (some ⟨w.heap.size, 0, none⟩), .pointer (some ⟨w.heap.size + 1, 0, none⟩)]) ∧ w' = (w.alloc (.cells #[.slice a len cap] 30)).alloc (.cells #[.int .i64 sz] 3) := by
  refine callsIn_of_wp Tryz.func66 rfl h5 ?_ hro
  simp only [Tryz.ntmps66, List.size_toArray, List.length_cons, List.length_nil, Nat.reduceAdd, Nat.reduceSub, Array.replicate_succ, Array.replicate_zero, List.push_toArray, List.append_toArray, List.nil_append, List.cons_append]
  have h1 : ¬ ((sz : Int) < 1) := by omega
  gi_wp2
  go_ret
  exact ⟨rfl, rfl⟩
def upto {α : Type} (f : Nat → α) (k : Nat) : List α := (List.range k).map f
theorem upto_succ {α : Type} (f : Nat → α) (k : Nat) : upto f (k + 1) = upto f k ++ [f k] := by simp [upto, List.range_succ]
theorem upto_length {α : Type} (f : Nat → α) (k : Nat) : (upto f k).length = k := by simp [upto]
theorem upto_prefix {α : Type} (f : Nat → α) {k n : Nat} (h : k ≤ n) : upto f k <+: upto f n := by
  induction n with
  | zero => obtain rfl : k = 0 := by omega
            exact List.prefix_refl _
  | succ n ih =>
    rcases Nat.lt_or_ge k (n + 1) with h1 | h1
    · rw [upto_succ]; exact (ih (by omega)).trans (List.prefix_append _ _)
    · obtain rfl : k = n + 1 := by omega
      exact List.prefix_refl _
/-- How many pieces. -/
def pieces (len sz : Nat) : Nat := (len + sz - 1) / sz
theorem lt_pieces {len sz k : Nat} (h : 1 ≤ sz) : k < pieces len sz ↔ k * sz < len := by
  unfold pieces
  rw [← Nat.succ_le_iff, Nat.le_div_iff_mul_le (by omega), Nat.succ_mul]
  omega
/-- The k-th piece. -/
def piece (b off len sz k : Nat) : Value := .slice (some ⟨b, off + k * sz, none⟩) (min sz (len - k * sz)) (min sz (len - k * sz))
/-- The iterator's own two variables stay. -/
structure KpC (Bs Bn : Nat) (W W' : World) : Prop where
  s : W'.cell? ⟨Bs, 0, none⟩ = W.cell? ⟨Bs, 0, none⟩
  n : W'.cell? ⟨Bn, 0, none⟩ = W.cell? ⟨Bn, 0, none⟩
theorem KpC.trans {Bs Bn : Nat} {A B C : World} (h : KpC Bs Bn A B) (k : KpC Bs Bn B C) : KpC Bs Bn A C := ⟨k.s.trans h.s, k.n.trans h.n⟩
theorem KpC.put {Bs Bn : Nat} {w : World} (h1 : Bs < w.heap.size) (h2 : Bn < w.heap.size) (W : World) (l : Nat) (o o' : Obj) (hl : w.heap.size ≤ l) (h : W.heap[l]? = some o) (_ : o.isCells = false) (_ : o.isWalk = false) : KpC Bs Bn W (W.putObj l o') := by
  have hB := belowK_b (w := w) (Nat.le_refl _) W l o o' hl h (by assumption) (by assumption)
  exact ⟨hB.cell (p := ⟨Bs, 0, none⟩) h1, hB.cell (p := ⟨Bn, 0, none⟩) h2⟩
set_option maxRecDepth 100000 in
set_option maxHeartbeats 2000000 in
theorem chunk1_in {α : Type} (val : α → Value) (f : Nat → α) (n : Nat) (hn : 1 ≤ n) (l Bs Bn b off len cap sz : Nat) (hlc : len ≤ cap ∧ cap ≤ 9223372036854775807) (hsz : 1 ≤ sz) (hreach : len ≤ 1000000 ∧ sz ≤ 1000000) (hf : ∀ k, k < pieces len sz → val (f k) = piece b off len sz k) (J Jx : List α → World → Prop) (hJd : ∀ pre W n, J pre W → J pre (World.drewN W n))
    (hY : ∀ pre x W, J pre W → pre.length < pieces len sz → YieldAt Fence.wide (n - 1) Tryz.prog l #[val x] W fun e W' =>
      (e = .returned (.bool true) ∧ J (pre ++ [x]) W' ∧ KpC Bs Bn W W') ∨ (e = .returned (.bool false) ∧ Jx (pre ++ [x]) W'))
    (W : World) (hBs : W.cell? ⟨Bs, 0, none⟩ = some (.slice (some ⟨b, off, none⟩) len cap)) (hBn : W.cell? ⟨Bn, 0, none⟩ = some (.int .i64 sz)) (h0 : J [] W) :
    CallsIn Fence.wide n Tryz.prog 106 #[.func (.yield l) #[] #[], .pointer (some ⟨Bs, 0, none⟩), .pointer (some ⟨Bn, 0, none⟩)] W fun e W' => (∃ v, e = .returned v) ∧
      ((∃ ys, ys = upto f (pieces len sz) ∧ J ys W') ∨ (∃ pre, (∃ k, k ≤ pieces len sz ∧ pre = upto f k) ∧ Jx pre W')) := by
  obtain ⟨hl1, hl2⟩ := hlc
  obtain ⟨hr1, hr2⟩ := hreach
  refine callsIn_of_wp Tryz.func106 rfl trivial ?_ rfl
  simp only [Tryz.ntmps106, List.size_toArray, List.length_cons, List.length_nil, Nat.reduceAdd, Nat.reduceSub, Array.replicate_succ, Array.replicate_zero, List.push_toArray, List.append_toArray, List.nil_append, List.cons_append]
  gi_wp2
  gi_loopw [4] (fun i wr => ∃ (k I : Nat), Hid (I = k * sz) ∧ i = .int .i64 I ∧ k ≤ pieces len sz ∧ J (upto f k) wr ∧ KpC Bs Bn W wr)
    (fun i _ => len - (intOf i).toNat)
  case atStart => exact ⟨0, 0, (Nat.zero_mul _).symm, rfl, Nat.zero_le _, h0, ⟨rfl, rfl⟩⟩
  case round =>
    obtain ⟨k, I, HI, rfl, hk, hJs, hnx⟩ := hrel
    have c1 := hnx.s.trans hBs
    have c2 := hnx.n.trans hBn
    by_cases hlt : I < len
    · have hkp : k < pieces len sz := (lt_pieces hsz).2 (by rw [← HI.out]; exact hlt)
      have hpk : val (f k) = .slice (some ⟨b, off + I, none⟩) (min sz (len - I)) (min sz (len - I)) := by rw [hf k hkp]; unfold piece; rw [HI.out]
      obtain ⟨m, hm⟩ : ∃ m, min sz (len - I) = m := ⟨_, rfl⟩
      rw [hm] at hpk
      have hm1 : 1 ≤ m ∧ I + m ≤ len := by omega
      have q1 : (0 : Int) ≤ (I : Int) := by omega
      have q2 : (I : Int) ≤ (len : Int) := by omega
      have q3 : ¬ (cap = I) := by omega
      have q4 : ((len - I : Nat) : Int) = (len : Int) - (I : Int) := by omega
      have q5 : IntKind.i64.wrap ((I : Int) + (m : Int)) = ((I + m : Nat) : Int) := by rw [IntWalk.i64_in _ (by omega)]; omega
      have q6 : IntKind.i64.wrap ((I : Int) + (sz : Int)) = ((I + sz : Nat) : Int) := by rw [IntWalk.i64_in _ (by omega)]; omega
      have hcase : (decide ((sz : Int) < ((len - I : Nat) : Int)) = true ∧ decide (((len - I : Nat) : Int) < (sz : Int)) = false ∧ m = sz) ∨ (decide ((m : Int) < (sz : Int)) = true ∧ decide ((sz : Int) < (m : Int)) = false ∧ m = len - I) ∨ (sz = m ∧ m = len - I) := by
        by_cases h : sz < len - I
        · exact .inl ⟨by simp; omega, by simp; omega, by omega⟩
        · by_cases h2 : len - I < sz
          · exact .inr (.inl ⟨by simp; omega, by simp; omega, by omega⟩)
          · exact .inr (.inr ⟨by omega, by omega⟩)
      have HM := Lib.hid hm
      clear hm
      gi_wp2
      rcases hcase with ⟨g1, g2, hms⟩ | ⟨g1, g2, hms⟩ | ⟨hsm, hms⟩
      · have HMS := Lib.hid hms
        clear hms
        gi_quiet (fail)
        obtain ⟨fn, tmps, assign, body, hy, hR⟩ := hY _ (f k) (World.drewN wr nq) (hJd _ _ _ hJs) (by rw [upto_length]; exact hkp)
        rw [hpk] at hy
        have hms := HMS.out
        subst hms
        clear HMS
        gi_wp2
        refine hR.mono ?_
        rintro e W3 (⟨rfl, hJ3, hk3⟩ | ⟨rfl, hJx3⟩)
        · have hB3 : KpC Bs Bn W W3 := hnx.trans ((show KpC Bs Bn wr (World.drewN wr nq) from ⟨rfl, rfl⟩).trans hk3)
          have c4 := hB3.n.trans hBn
          gi_wp2
          go_roundw
          case rel => exact ⟨k + 1, _, by show _ = _; rw [Nat.add_mul, Nat.one_mul, ← HI.out], rfl, by omega, by rw [upto_succ]; exact hJ3, hB3⟩
          case measure => simp [intOf]; omega
        · gi_wp2
          refine bodyPost_ret (results_none rfl _ _ _) rfl ?_
          exact ⟨⟨_, rfl⟩, .inr ⟨_, ⟨k + 1, by omega, (upto_succ _ _).symm⟩, hJx3⟩⟩
      · have q7 : (len : Int) - (I : Int) = (m : Int) := by omega
        have q8 : IntKind.i64.wrap ((I : Int) + (m : Int)) = (I : Int) + (m : Int) := IntWalk.i64_in _ (by omega)
        have q9 : ((I : Int) + (m : Int)).toNat - I = m := by omega
        have q10 : ((I : Int) + (m : Int)).toNat = I + m := by omega
        have q11 : I + m - I = m := by omega
        have q12 : (I : Int) + (m : Int) ≤ (cap : Int) := by omega
        have q13 : (0 : Int) ≤ (I : Int) + (m : Int) := by omega
        have q14 : (I : Int) ≤ (I : Int) + (m : Int) := by omega
        have q15 : len - I = m := hms.symm
        have q16 : m < sz := by simpa using g1
        clear q4 q5 hms
        gi_quiet (fail)
        obtain ⟨fn, tmps, assign, body, hy, hR⟩ := hY _ (f k) (World.drewN wr nq) (hJd _ _ _ hJs) (by rw [upto_length]; exact hkp)
        rw [hpk] at hy
        gi_wp2
        refine hR.mono ?_
        rintro e W3 (⟨rfl, hJ3, hk3⟩ | ⟨rfl, hJx3⟩)
        · have hB3 : KpC Bs Bn W W3 := hnx.trans ((show KpC Bs Bn wr (World.drewN wr nq) from ⟨rfl, rfl⟩).trans hk3)
          have c4 := hB3.n.trans hBn
          gi_wp2
          go_roundw
          case rel => exact ⟨k + 1, _, by show _ = _; rw [Nat.add_mul, Nat.one_mul, ← HI.out], rfl, by omega, by rw [upto_succ]; exact hJ3, hB3⟩
          case measure => simp [intOf]; omega
        · gi_wp2
          refine bodyPost_ret (results_none rfl _ _ _) rfl ?_
          exact ⟨⟨_, rfl⟩, .inr ⟨_, ⟨k + 1, by omega, (upto_succ _ _).symm⟩, hJx3⟩⟩
      · subst hsm
        have q7 : (len : Int) - (I : Int) = (sz : Int) := by omega
        have q8 : IntKind.i64.wrap ((I : Int) + (sz : Int)) = (I : Int) + (sz : Int) := IntWalk.i64_in _ (by omega)
        have q9 : ((I : Int) + (sz : Int)).toNat - I = sz := by omega
        have q10 : ((I : Int) + (sz : Int)).toNat = I + sz := by omega
        have q11 : I + sz - I = sz := by omega
        have q12 : (I : Int) + (sz : Int) ≤ (cap : Int) := by omega
        have q13 : (0 : Int) ≤ (I : Int) + (sz : Int) := by omega
        have q14 : (I : Int) ≤ (I : Int) + (sz : Int) := by omega
        have q15 : len - I = sz := hms.symm
        clear q4 q5 q6 hms
        gi_quiet (fail)
        obtain ⟨fn, tmps, assign, body, hy, hR⟩ := hY _ (f k) (World.drewN wr nq) (hJd _ _ _ hJs) (by rw [upto_length]; exact hkp)
        rw [hpk] at hy
        gi_wp2
        refine hR.mono ?_
        rintro e W3 (⟨rfl, hJ3, hk3⟩ | ⟨rfl, hJx3⟩)
        · have hB3 : KpC Bs Bn W W3 := hnx.trans ((show KpC Bs Bn wr (World.drewN wr nq) from ⟨rfl, rfl⟩).trans hk3)
          have c4 := hB3.n.trans hBn
          gi_wp2
          go_roundw
          case rel => exact ⟨k + 1, _, by show _ = _; rw [Nat.add_mul, Nat.one_mul, ← HI.out], rfl, by omega, by rw [upto_succ]; exact hJ3, hB3⟩
          case measure => simp [intOf]; omega
        · gi_wp2
          refine bodyPost_ret (results_none rfl _ _ _) rfl ?_
          exact ⟨⟨_, rfl⟩, .inr ⟨_, ⟨k + 1, by omega, (upto_succ _ _).symm⟩, hJx3⟩⟩
    · have hkp : k = pieces len sz := by
        have h1 : ¬ k < pieces len sz := fun h => hlt (by rw [HI.out]; exact (lt_pieces hsz).1 h)
        omega
      subst hkp
      gi_wp2
      go_end0
      exact ⟨⟨_, rfl⟩, .inl ⟨_, rfl, hJs⟩⟩
set_option maxRecDepth 100000 in
set_option maxHeartbeats 1000000 in
theorem chunk1_zero {α : Type} (n : Nat) (l Bs Bn cap sz : Nat) (a : Option Addr) (J : List α → World → Prop) (W : World) (hBs : W.cell? ⟨Bs, 0, none⟩ = some (.slice a 0 cap)) (h0 : J [] W) :
    CallsIn Fence.wide n Tryz.prog 106 #[.func (.yield l) #[] #[], .pointer (some ⟨Bs, 0, none⟩), .pointer (some ⟨Bn, 0, none⟩)] W fun e W' => (∃ v, e = .returned v) ∧ J [] W' := by
  refine callsIn_of_wp Tryz.func106 rfl trivial ?_ rfl
  simp only [Tryz.ntmps106, List.size_toArray, List.length_cons, List.length_nil, Nat.reduceAdd, Nat.reduceSub, Array.replicate_succ, Array.replicate_zero, List.push_toArray, List.append_toArray, List.nil_append, List.cons_append]
  gi_wp2
  gi_loopw [4] (fun i wr => i = .int .i64 0 ∧ J [] wr ∧ wr = W) (fun _ _ => 0)
  case atStart => exact ⟨rfl, h0, rfl⟩
  case round =>
    obtain ⟨rfl, hJs, rfl⟩ := hrel
    gi_wp2
    go_end0
    exact ⟨⟨_, rfl⟩, hJs⟩
theorem pieces_zero (sz : Nat) (h : 1 ≤ sz) : pieces 0 sz = 0 := by
  unfold pieces
  exact Nat.div_eq_of_lt (by omega)
/-- slices.Chunk(s, sz) gives its pieces, one by one. -/
theorem chunk_stops {α : Type} (val : α → Value) (f : Nat → α) (n : Nat) (hn : 1 ≤ n) (Bs Bn len cap sz : Nat) (a : Option Addr) (hlc : len ≤ cap ∧ cap ≤ 9223372036854775807) (hsz : 1 ≤ sz) (hreach : len ≤ 1000000 ∧ sz ≤ 1000000) (w : World) (hbs : Bs < w.heap.size) (hbn : Bn < w.heap.size)
    (hf : ∀ k, k < pieces len sz → ∃ b off, a = some ⟨b, off, none⟩ ∧ val (f k) = piece b off len sz k) (hBs : w.cell? ⟨Bs, 0, none⟩ = some (.slice a len cap)) (hBn : w.cell? ⟨Bn, 0, none⟩ = some (.int .i64 sz)) :
    SeqStopsK Fence.wide n Tryz.prog 106 #[.pointer (some ⟨Bs, 0, none⟩), .pointer (some ⟨Bn, 0, none⟩)] (fun x : α => #[val x]) (KpC Bs Bn) (fun ys => ys = upto f (pieces len sz)) (fun _ => True) (pieces len sz) w := fun l J Jx W hW hJ _ hY h0 => by
  have hBs' := (hW.cell (p := ⟨Bs, 0, none⟩) (by simp only; omega)).trans hBs
  have hBn' := (hW.cell (p := ⟨Bn, 0, none⟩) (by simp only; omega)).trans hBn
  rcases Nat.eq_zero_or_pos len with h | h
  · subst h
    refine (chunk1_zero n l Bs Bn cap sz a J W hBs' h0).mono ?_
    rintro e W' ⟨he, hj⟩
    exact ⟨he, .inl ⟨[], by rw [pieces_zero sz hsz]; rfl, hj⟩⟩
  · have hp : 0 < pieces len sz := (lt_pieces hsz).2 (by omega)
    obtain ⟨b, off, rfl, _⟩ := hf 0 hp
    refine (chunk1_in val f n hn l Bs Bn b off len cap sz hlc hsz hreach (fun k hk => by
      obtain ⟨b2, o2, e, hv⟩ := hf k hk
      simp only [Option.some.injEq, Addr.mk.injEq, and_true] at e
      obtain ⟨rfl, rfl⟩ := e
      exact hv) J Jx (fun pre W1 m hj => hJ pre W1 (World.drewN W1 m) none hj ⟨rfl, rfl, rfl, Nat.le_refl _, fun _ _ _ => rfl⟩ (fun r e => by cases e)) hY W hBs' hBn' h0).mono ?_
    rintro e W' ⟨he, ⟨ys, rfl, hj⟩ | ⟨pre, _, hj⟩⟩
    · exact ⟨he, .inl ⟨_, rfl, hj⟩⟩
    · exact ⟨he, .inr ⟨_, trivial, hj⟩⟩
end Go.Proofs.YtegngpingfjedaaGreatDoor.ChunkI
