/-
  Contracts of the reference's S (streams as two slices and a number) over this seat's translation: Many, State, Put, Open.
  Conditions: the receiver's three cells; its slices are its own.
-/
import Derived.Test.YtpbaanoheeghlaaStreamsPlain
import Derived.Test.YtpbaanoheeghlaaRows1
import Derived.Test.YtpbaanoheeghlaaMod
import Derived.Lib.Hide
namespace Go.Proofs.Ytpbaanoheeghlaa.SRef
open Go.RowKit StreamC StreamsC ModL
set_option linter.unusedSimpArgs false
set_option linter.unusedVariables false

theorem elemI : RowsL.Elem Try.prog 30 3 (.int .i64 0) 8 := ⟨Try.underlying30, by kernel_rfl, rfl, by decide⟩
/-- The receiver: three cells, and two slices of its own. N: blocks that are none of its. -/
structure RefAt (w : World) (N : Nat → Prop) (B sb : Nat) (vi vs : Value) (l : List (Int × Int)) (last : Int) : Prop where
  c0 : w.cell? ⟨sb, 0, none⟩ = some vi
  c1 : w.cell? ⟨sb, 1, none⟩ = some vs
  c2 : w.cell? ⟨sb, 2, none⟩ = some (.int .i64 last)
  f0 : w.frozen? ⟨sb, 0, none⟩ = false
  f1 : w.frozen? ⟨sb, 1, none⟩ = false
  f2 : w.frozen? ⟨sb, 2, none⟩ = false
  sN : ¬ N sb
  sB : B ≤ sb
  oi : RowsL.Own w B 3 vi (l.map fun p => .int .i64 p.1)
  os : RowsL.Own w B 3 vs (l.map fun p => .int .i64 p.2)
  ni : ∀ k, vi.ownBlock = some k → ¬ N k ∧ k ≠ sb
  ns : ∀ k, vs.ownBlock = some k → ¬ N k ∧ k ≠ sb
  d : ∀ k, vi.ownBlock = some k → vs.ownBlock ≠ some k
def IsRef (w : World) (N : Nat → Prop) (B sb : Nat) (l : List (Int × Int)) (last : Int) : Prop := ∃ vi vs, RefAt w N B sb vi vs l last
theorem RefAt.lt {w : World} {N : Nat → Prop} {B sb : Nat} {vi vs : Value} {l : List (Int × Int)} {last : Int} (h : RefAt w N B sb vi vs l last) : sb < w.heap.size := block_lt_of_cell h.c0
theorem RefAt.mod {w w' : World} {N T : Nat → Prop} {B sb : Nat} {vi vs : Value} {l : List (Int × Int)} {last : Int} (h : RefAt w N B sb vi vs l last) (hM : Mod T w w') (hT : ∀ k, k < w.heap.size → T k → N k ∨ k < B) : RefAt w' N B sb vi vs l last := by
  have hs := h.lt
  have hn : ¬ T sb := fun ht => by rcases hT sb hs ht with h1 | h1; exact h.sN h1; have := h.sB; omega
  refine ⟨(hM.cell (p := ⟨sb, 0, none⟩) hs hn).trans h.c0, (hM.cell (p := ⟨sb, 1, none⟩) hs hn).trans h.c1, (hM.cell (p := ⟨sb, 2, none⟩) hs hn).trans h.c2, (hM.frozen (p := ⟨sb, 0, none⟩) hs hn).trans h.f0, (hM.frozen (p := ⟨sb, 1, none⟩) hs hn).trans h.f1, (hM.frozen (p := ⟨sb, 2, none⟩) hs hn).trans h.f2, h.sN, h.sB, h.oi.of_block fun k hk => ?_, h.os.of_block fun k hk => ?_, h.ni, h.ns, h.d⟩
  · have := h.oi.lt k hk
    exact hM.block k this.2 (fun ht => by rcases hT k this.2 ht with h1 | h1; exact (h.ni k hk).1 h1; omega)
  · have := h.os.lt k hk
    exact hM.block k this.2 (fun ht => by rcases hT k this.2 ht with h1 | h1; exact (h.ns k hk).1 h1; omega)
theorem RefAt.more {w : World} {N N' : Nat → Prop} {B sb : Nat} {vi vs : Value} {l : List (Int × Int)} {last : Int} (h : RefAt w N B sb vi vs l last) (hn : ∀ k, k < w.heap.size → N' k → N k) : RefAt w N' B sb vi vs l last :=
  ⟨h.c0, h.c1, h.c2, h.f0, h.f1, h.f2, fun e => h.sN (hn _ h.lt e), h.sB, h.oi, h.os, fun k hk => ⟨fun e => (h.ni k hk).1 (hn _ (h.oi.lt k hk).2 e), (h.ni k hk).2⟩, fun k hk => ⟨fun e => (h.ns k hk).1 (hn _ (h.os.lt k hk).2 e), (h.ns k hk).2⟩, h.d⟩
theorem IsRef.mod {w w' : World} {N T : Nat → Prop} {B sb : Nat} {l : List (Int × Int)} {last : Int} (h : IsRef w N B sb l last) (hM : Mod T w w') (hT : ∀ k, k < w.heap.size → T k → N k ∨ k < B) : IsRef w' N B sb l last := by
  obtain ⟨vi, vs, h⟩ := h
  exact ⟨vi, vs, h.mod hM hT⟩
theorem IsRef.more {w : World} {N N' : Nat → Prop} {B sb : Nat} {l : List (Int × Int)} {last : Int} (h : IsRef w N B sb l last) (hn : ∀ k, k < w.heap.size → N' k → N k) : IsRef w N' B sb l last := by
  obtain ⟨vi, vs, h⟩ := h
  exact ⟨vi, vs, h.more hn⟩
theorem IsRef.drew {w : World} {N : Nat → Prop} {B sb : Nat} {l : List (Int × Int)} {last : Int} (h : IsRef w N B sb l last) : IsRef w.drew N B sb l last :=
  h.mod (T := fun _ => False) (Mod.refl _ w).drew (fun k _ h => h.elim)
/-- A receiver of its own, just made. -/
theorem IsRef.fresh (w : World) (N : Nat → Prop) (B : Nat) (hN : ∀ k, N k → k < w.heap.size) (hB : B ≤ w.heap.size) : IsRef (w.alloc (.cells #[.slice none 0 0, .slice none 0 0, .int .i64 0] 46)) N B w.heap.size [] 0 :=
  ⟨_, _, ⟨by simp, by simp, by simp, by simp, by simp, by simp, fun e => by have := hN _ e; omega, hB, RowsL.Own.nil _ _ _, RowsL.Own.nil _ _ _, by simp [Value.ownBlock], by simp [Value.ownBlock], by simp [Value.ownBlock]⟩⟩
theorem IsRef.last {w : World} {N : Nat → Prop} {B sb : Nat} {l : List (Int × Int)} {last : Int} (h : IsRef w N B sb l last) : w.cell? ⟨sb, 2, none⟩ = some (.int .i64 last) := by
  obtain ⟨vi, vs, h⟩ := h
  exact h.c2
theorem RefAt.elems {w : World} {N : Nat → Prop} {B sb : Nat} {vi vs : Value} {l : List (Int × Int)} {last : Int} (h : RefAt w N B sb vi vs l last) :
    ∃ ai ci as' cs, vi = .slice ai l.length ci ∧ vs = .slice as' l.length cs ∧ l.length ≤ ci ∧ l.length ≤ cs ∧ ci ≤ 9223372036854775807 ∧
      ∀ i, i < l.length → ∃ gi gs, ai = some ⟨gi, 0, none⟩ ∧ as' = some ⟨gs, 0, none⟩ ∧ w.cell? ⟨gi, i, none⟩ = some (.int .i64 (l.getD i (0, 0)).1) ∧ w.cell? ⟨gs, i, none⟩ = some (.int .i64 (l.getD i (0, 0)).2) ∧ w.frozen? ⟨gs, i, none⟩ = false ∧ gs ≠ sb ∧ ¬ N gs ∧ B ≤ gs ∧ gs < w.heap.size ∧ gs ≠ gi := by
  obtain ⟨ai, ci, e1, h1, h2, h3, h4⟩ := h.oi.slice
  obtain ⟨as', cs, e2, k1, k2, k3, k4⟩ := h.os.slice
  simp only [List.length_map] at *
  refine ⟨ai, ci, as', cs, e1, e2, h1, k1, h2, fun i hi => ?_⟩
  cases hai : ai with
  | none => have := h3 hai; simp at this; subst this; simp at hi
  | some x =>
    cases has : as' with
    | none => have := k3 has; simp at this; subst this; simp at hi
    | some y =>
      obtain ⟨g, rfl, hb, hlt, hc, hf⟩ := h4 x hai
      obtain ⟨g', rfl, hb', hlt', hc', hf'⟩ := k4 y has
      have n1 := h.ns g' (by rw [e2, has]; rfl)
      refine ⟨g, g', rfl, rfl, ?_, ?_, hf' i, n1.2, n1.1, hb', hlt', ?_⟩
      · rw [hc i hi]; simp [List.getElem?_eq_getElem hi]
      · rw [hc' i hi]; simp [List.getElem?_eq_getElem hi]
      · intro e; subst e
        exact h.d g' (by rw [e1, hai]; rfl) (by rw [e2, has]; rfl)

theorem liveB_iff (s : Int) : liveB s = (decide (1 ≤ s) && decide (s ≤ 3)) := by
  rw [Bool.eq_iff_iff]; simp [liveB]; omega
theorem liveN_take (l : List (Int × Int)) (i : Nat) (h : i < l.length) : liveN (l.take (i + 1)) = liveN (l.take i) + one (liveB (l.getD i (0, 0)).2) := by
  rw [List.take_succ_eq_append_getElem h, liveN_append, liveN_cons]
  simp [List.getElem?_eq_getElem h]; rfl
theorem lookS_take (l : List (Int × Int)) (i : Nat) (h : i < l.length) (id : Int) (hn : lookS (l.take i) id = none) : lookS (l.take (i + 1)) id = (if (l.getD i (0, 0)).1 = id then some (l.getD i (0, 0)).2 else none) ∧ ((l.getD i (0, 0)).1 = id → lookS l id = some (l.getD i (0, 0)).2) := by
  have e : l.getD i (0, 0) = l[i] := by simp [List.getElem?_eq_getElem h]
  refine ⟨?_, fun h2 => ?_⟩
  · rw [List.take_succ_eq_append_getElem h, lookS_append, hn]
    simp only [lookS_cons, lookS_nil, e]
  · conv => lhs; rw [← List.take_append_drop i l]
    rw [lookS_append, hn, List.drop_eq_getElem_cons h]
    simp only [lookS_cons]
    rw [e] at h2 ⊢
    rw [if_pos h2]

set_option maxHeartbeats 2000000 in
theorem many_any {w : World} {N : Nat → Prop} {B sb : Nat} {l : List (Int × Int)} {last : Int} (h : IsRef w N B sb l last) :
    Calls Try.prog 26 #[.pointer (some ⟨sb, 0, none⟩)] w fun e w' => e = .returned (.int .i64 (liveN l)) ∧ w = w' := by
  obtain ⟨vi, vs, h⟩ := h
  obtain ⟨ai, ci, as', cs, rfl, rfl, h1, h2, h3, hel⟩ := h.elems
  have hc1 := h.c1
  have HEL := Lib.hid hel
  clear hel h
  go_enter Try.func26, Try.ntmps26
  go_wp2
  go_loop [3, 4] (fun n i => ∃ k m : Nat, i = .int .i64 k ∧ n = .int .i64 m ∧ k ≤ l.length ∧ m ≤ k ∧ Hid (m = liveN (l.take k))) (fun _ i => l.length - (intOf i).toNat)
  case atStart => exact ⟨0, 0, rfl, rfl, by omega, by omega, by simp [Hid, liveN]⟩
  case round =>
    obtain ⟨k, m, rfl, rfl, hk, hm, HM⟩ := hrel
    by_cases hlt : k < l.length
    · obtain ⟨gi, gs, rfl, rfl, e1, e2, e3, e4, _⟩ := HEL.out k hlt
      have HT := Lib.hid (liveN_take l k hlt)
      generalize l.getD k (0, 0) = p at *
      have hb := liveB_iff p.2
      have HB := Lib.hid hb
      clear hb e1 e3 e4
      by_cases q1 : 1 ≤ p.2
      · by_cases q2 : p.2 ≤ 3
        · go_wp2
          go_round
          case rel => exact ⟨k + 1, m + 1, by go_num, by go_num, by omega, by omega, by
            show _ = _
            rw [HT.out, ← HM.out, HB.out]; simp [q1, q2, one]⟩
          case measure => simp [intOf]; omega
        · go_wp2
          go_round
          case rel => exact ⟨k + 1, m, by go_num, rfl, by omega, by omega, by
            show _ = _
            rw [HT.out, ← HM.out, HB.out]; simp [q2, one]⟩
          case measure => simp [intOf]; omega
      · go_wp2
        go_round
        case rel => exact ⟨k + 1, m, by go_num, rfl, by omega, by omega, by
          show _ = _
          rw [HT.out, ← HM.out, HB.out]; simp [q1, one]⟩
        case measure => simp [intOf]; omega
    · have e : k = l.length := by omega
      have HE : Hid (m = liveN l) := by
        have := HM.out
        rw [e, List.take_length] at this
        exact this
      clear e
      go_wp2
      go_ret
      exact ⟨by rw [HE.out]; rfl, rfl⟩
set_option maxHeartbeats 2000000 in
theorem state_any {w : World} {N : Nat → Prop} {B sb : Nat} {l : List (Int × Int)} {last : Int} (h : IsRef w N B sb l last) (id : Int) (hid : -9223372036854775808 ≤ id ∧ id ≤ 9223372036854775807) :
    Calls Try.prog 25 #[.pointer (some ⟨sb, 0, none⟩), .int .i64 id] w fun e w' => e = .returned (.int .i64 (stateF l last id)) ∧ w = w' := by
  obtain ⟨hid1, hid2⟩ := hid
  obtain ⟨vi, vs, h⟩ := h
  obtain ⟨ai, ci, as', cs, rfl, rfl, h1, h2, h3, hel⟩ := h.elems
  have hc0 := h.c0
  have hc1 := h.c1
  have hc2 := h.c2
  have HEL := Lib.hid hel
  clear hel h
  by_cases g1 : 1 ≤ id
  · by_cases g2 : id % 2 = 1
    · have g2' : (id % 2 != 1) = false := by simp [g2]
      by_cases g3 : id ≤ last
      · have HF : Hid (stateF l last id = (lookS l id).getD 4) := by show _ = _; unfold stateF; rw [if_pos ⟨g2, g1, g3⟩]
        clear g2
        go_enter Try.func25, Try.ntmps25
        go_wp2
        go_loop [5] (fun i => ∃ k : Nat, i = .int .i64 k ∧ k ≤ l.length ∧ Hid (lookS (l.take k) id = none)) (fun i => l.length - (intOf i).toNat)
        case atStart => exact ⟨0, rfl, by omega, rfl⟩
        case round =>
          obtain ⟨k, rfl, hk, HN⟩ := hrel
          by_cases hlt : k < l.length
          · obtain ⟨gi, gs, rfl, rfl, e1, e2, e3, e4, _⟩ := HEL.out k hlt
            obtain ⟨t1, t2⟩ := lookS_take l k hlt id HN.out
            generalize l.getD k (0, 0) = p at *
            have T1 := Lib.hid t1
            have T2 := Lib.hid t2
            clear t1 t2 e3 e4
            by_cases q : p.1 = id
            · have q' : (p.1 == id) = true := by simpa using q
              have T3 := Lib.hid (T2.out q)
              clear q
              go_wp2
              go_ret
              exact ⟨by rw [HF.out, T3.out]; rfl, rfl⟩
            · have q' : (p.1 == id) = false := by simpa using q
              have T3 := T1.out
              rw [if_neg q] at T3
              have T4 := Lib.hid T3
              clear q T3
              go_wp2
              go_round
              case rel => exact ⟨k + 1, by go_num, by omega, T4.out⟩
              case measure => simp [intOf]; omega
          · have e : k = l.length := by omega
            have HE : Hid (lookS l id = none) := by
              have := HN.out
              rw [e, List.take_length] at this
              exact this
            clear e
            go_wp2
            go_ret
            exact ⟨by rw [HF.out, HE.out]; rfl, rfl⟩
      · have HF : Hid (stateF l last id = 0) := by show _ = _; unfold stateF; rw [if_neg (fun h => g3 h.2.2)]
        clear g2
        go_enter Try.func25, Try.ntmps25
        go_wp2
        go_ret
        exact ⟨by rw [HF.out]; rfl, rfl⟩
    · have g2' : (id % 2 != 1) = true := by simp [g2]
      have HF : Hid (stateF l last id = 0) := by show _ = _; unfold stateF; rw [if_neg (fun h => g2 h.1)]
      clear g2
      go_enter Try.func25, Try.ntmps25
      go_wp2
      go_ret
      exact ⟨by rw [HF.out]; rfl, rfl⟩
  · have HF : Hid (stateF l last id = 0) := by show _ = _; unfold stateF; rw [if_neg (fun h => g1 h.2.1)]
    go_enter Try.func25, Try.ntmps25
    go_wp2
    all_goals go_ret
    all_goals exact ⟨by rw [HF.out]; rfl, rfl⟩
theorem putS_at (l : List (Int × Int)) : ∀ (k : Nat) (hk : k < l.length) (id x : Int), lookS (l.take k) id = none → (l.getD k (0, 0)).1 = id → putS l id x = l.set k (id, x) := by
  induction l with
  | nil => intro k hk; simp at hk
  | cons p l ih =>
    intro k hk id x hn he
    cases k with
    | zero =>
      have h2 : (p.1 == id) = true := by simpa using he
      simp [putS, h2]
    | succ k =>
      rw [List.take_succ_cons, lookS_cons] at hn
      split at hn
      · cases hn
      · rename_i hne
        have h2 : (p.1 == id) = false := by simpa using hne
        simp only [putS, h2, List.set_cons_succ, Bool.false_eq_true, if_false]
        rw [ih k (by simpa using hk) id x hn (by simpa using he)]
theorem RefAt.set {w : World} {N : Nat → Prop} {B sb : Nat} {vi : Value} {gs cs : Nat} {l : List (Int × Int)} {last : Int} (h : RefAt w N B sb vi (.slice (some ⟨gs, 0, none⟩) l.length cs) l last) (k : Nat) (hk : k < l.length) (id st : Int) (he : (l.getD k (0, 0)).1 = id) :
    RefAt (w.setCell ⟨gs, k, none⟩ (.int .i64 st)) N B sb vi (.slice (some ⟨gs, 0, none⟩) l.length cs) (l.set k (id, st)) last := by
  have hgs := h.ns gs rfl
  have e1 : (l.set k (id, st)).map (fun p => Value.int .i64 p.1) = l.map fun p => Value.int .i64 p.1 := by
    apply List.ext_getElem
    · simp
    · intro i h1 h2
      simp only [List.getElem_map, List.getElem_set]
      split
      · rename_i e; subst e; rw [← he]; simp [List.getElem?_eq_getElem hk]
      · rfl
  have e2 : (l.set k (id, st)).map (fun p => Value.int .i64 p.2) = (l.map fun p => Value.int .i64 p.2).set k (.int .i64 st) := by rw [List.map_set]
  refine ⟨by rw [World.cell?_setCell_other _ _ _ _ (fun e => hgs.2 (congrArg Addr.block e))]; exact h.c0, by rw [World.cell?_setCell_other _ _ _ _ (fun e => hgs.2 (congrArg Addr.block e))]; exact h.c1, by rw [World.cell?_setCell_other _ _ _ _ (fun e => hgs.2 (congrArg Addr.block e))]; exact h.c2, by simp [h.f0], by simp [h.f1], by simp [h.f2], h.sN, h.sB, ?_, ?_, h.ni, h.ns, h.d⟩
  · rw [e1]
    exact h.oi.setCell _ _ (fun e => h.d gs e rfl)
  · rw [e2]
    exact h.os.store (by simp) k _ (by simpa using hk)
theorem RefAt.push {w w1 w2 : World} {N : Nat → Prop} {B sb : Nat} {vi vs v1 v2 : Value} {l : List (Int × Int)} {last : Int} (h : RefAt w N B sb vi vs l last) (hB : B ≤ w.heap.size) (hN : ∀ k, N k → k < w.heap.size) (id st : Int) (o1 o2 : Obj)
    (h1 : RowsL.Own w1 B 3 v1 ((l.map fun p => Value.int .i64 p.1) ++ [.int .i64 id])) (g1 : (w.alloc o1).grownBy w1 vi.ownBlock) (p1 : ∃ g, v1.ownBlock = some g ∧ (vi.ownBlock = some g ∨ (w.alloc o1).heap.size = g))
    (h2 : RowsL.Own w2 B 3 v2 ((l.map fun p => Value.int .i64 p.2) ++ [.int .i64 st])) (g2 : ((w1.setCell ⟨sb, 0, none⟩ v1).alloc o2).grownBy w2 vs.ownBlock) (p2 : ∃ g, v2.ownBlock = some g ∧ (vs.ownBlock = some g ∨ ((w1.setCell ⟨sb, 0, none⟩ v1).alloc o2).heap.size = g)) :
    RefAt (w2.setCell ⟨sb, 1, none⟩ v2) N B sb v1 v2 (l ++ [(id, st)]) last ∧ Mod (fun k => ¬ N k ∧ B ≤ k) w (w2.setCell ⟨sb, 1, none⟩ v2) := by
  have hs := h.lt
  have hso : some sb ≠ vi.ownBlock := fun e => (h.ni sb e.symm).2 rfl
  have hss : some sb ≠ vs.ownBlock := fun e => (h.ns sb e.symm).2 rfl
  obtain ⟨k1, e1, p1⟩ := p1
  obtain ⟨k2, e2, p2⟩ := p2
  have z1 := g1.size
  have z2 := g2.size
  simp only [World.size_alloc, World.size_setCell] at z1 z2 p1 p2
  -- the first slice's block
  have a1 : ¬ N k1 ∧ k1 ≠ sb ∧ k1 < w1.heap.size ∧ (vs.ownBlock ≠ some k1) := by
    rcases p1 with p1 | p1
    · have := h.ni k1 p1
      exact ⟨this.1, this.2, (h1.lt k1 e1).2, fun e => h.d k1 p1 e⟩
    · exact ⟨fun hn => by have := hN k1 hn; omega, by omega, (h1.lt k1 e1).2, fun e => by have := (h.os.lt k1 e).2; omega⟩
  have a2 : ¬ N k2 ∧ k2 ≠ sb ∧ k1 ≠ k2 := by
    rcases p2 with p2 | p2
    · have := h.ns k2 p2
      exact ⟨this.1, this.2, fun e => a1.2.2.2 (by rw [e]; exact p2)⟩
    · exact ⟨fun hn => by have := hN k2 hn; omega, by omega, by have := a1.2.2.1; omega⟩
  -- the receiver's block, behind both
  have hb1 : w1.heap[sb]? = w.heap[sb]? := (g1.block sb (by simp; omega) hso).trans (Below.heap_alloc _ _ _ hs)
  have hw1 : sb < w1.heap.size := by omega
  have c (i : Nat) : w1.cell? ⟨sb, i, none⟩ = w.cell? ⟨sb, i, none⟩ := World.cell?_of_block (a := ⟨sb, i, none⟩) hb1
  have f (i : Nat) : w1.frozen? ⟨sb, i, none⟩ = w.frozen? ⟨sb, i, none⟩ := World.frozen?_of_block (a := ⟨sb, i, none⟩) hb1
  have hb2 : w2.heap[sb]? = (w1.setCell ⟨sb, 0, none⟩ v1).heap[sb]? := (g2.block sb (by simp; omega) hss).trans (Below.heap_alloc _ _ _ (by simp [World.setCell]; omega))
  have c2 (i : Nat) : w2.cell? ⟨sb, i, none⟩ = (w1.setCell ⟨sb, 0, none⟩ v1).cell? ⟨sb, i, none⟩ := World.cell?_of_block (a := ⟨sb, i, none⟩) hb2
  have f2 (i : Nat) : w2.frozen? ⟨sb, i, none⟩ = (w1.setCell ⟨sb, 0, none⟩ v1).frozen? ⟨sb, i, none⟩ := World.frozen?_of_block (a := ⟨sb, i, none⟩) hb2
  refine ⟨⟨?_, ?_, ?_, ?_, ?_, ?_, h.sN, h.sB, ?_, ?_, ?_, ?_, ?_⟩, ?_⟩
  · rw [World.cell?_setCell_other _ _ _ _ (by simp), c2, World.cell?_setCell_same _ _ _ ((c 0).trans h.c0)]
  · rw [World.cell?_setCell_same _ _ _ ((c2 1).trans ((World.cell?_setCell_other _ _ _ _ (by simp)).trans ((c 1).trans h.c1)))]
  · rw [World.cell?_setCell_other _ _ _ _ (by simp), c2, World.cell?_setCell_other _ _ _ _ (by simp), c, h.c2]
  · simp [f2, f, h.f0]
  · simp [f2, f, h.f1]
  · simp [f2, f, h.f2]
  · have h1' : RowsL.Own (w1.setCell ⟨sb, 0, none⟩ v1) B 3 v1 ((l.map fun p => Value.int .i64 p.1) ++ [.int .i64 id]) := h1.setCell _ _ (by rw [e1]; simp; exact a1.2.1)
    have h1'' : RowsL.Own w2 B 3 v1 ((l.map fun p => Value.int .i64 p.1) ++ [.int .i64 id]) := (h1'.alloc o2).of_block fun k hk => g2.block k (((h1'.alloc o2).lt k hk).2) (fun e => by rw [e1] at hk; cases hk; exact a1.2.2.2 e.symm)
    simpa using h1''.setCell ⟨sb, 1, none⟩ v2 (by rw [e1]; simp; exact a1.2.1)
  · simpa using h2.setCell ⟨sb, 1, none⟩ v2 (by rw [e2]; simp; exact a2.2.1)
  · intro k hk; rw [e1] at hk; cases hk; exact ⟨a1.1, a1.2.1⟩
  · intro k hk; rw [e2] at hk; cases hk; exact ⟨a2.1, a2.2.1⟩
  · intro k hk; rw [e1] at hk; cases hk; rw [e2]; simp; exact fun e => a2.2.2 e.symm
  · have m0 : Mod (fun k => ¬ N k ∧ B ≤ k) w (w.alloc o1) := (Mod.refl _ w).alloc o1
    have m1 : Mod (fun k => ¬ N k ∧ B ≤ k) w w1 := m0.grown g1 (fun k hk _ => ⟨(h.ni k hk).1, (h.oi.lt k hk).1⟩)
    have m2 : Mod (fun k => ¬ N k ∧ B ≤ k) w ((w1.setCell ⟨sb, 0, none⟩ v1).alloc o2) := (m1.setCell (p := ⟨sb, 0, none⟩) (fun _ => ⟨h.sN, h.sB⟩) v1).alloc o2
    have m3 : Mod (fun k => ¬ N k ∧ B ≤ k) w w2 := m2.grown g2 (fun k hk _ => ⟨(h.ns k hk).1, (h.os.lt k hk).1⟩)
    exact m3.setCell (p := ⟨sb, 1, none⟩) (fun _ => ⟨h.sN, h.sB⟩) v2
set_option maxHeartbeats 4000000 in
theorem put_no {w : World} {N : Nat → Prop} {B sb : Nat} {l : List (Int × Int)} {last : Int} (h : IsRef w N B sb l last) (id st : Int) (hid : -9223372036854775808 ≤ id ∧ id ≤ 9223372036854775807) (hs : ¬ okId last id ∨ st < 1 ∨ 4 < st) :
    Calls Try.prog 24 #[.pointer (some ⟨sb, 0, none⟩), .int .i64 id, .int .i64 st] w fun e w' => e = .returned (.tuple #[]) ∧ w = w' := by
  obtain ⟨hid1, hid2⟩ := hid
  obtain ⟨vi, vs, h⟩ := h
  have hc2 := h.c2
  clear h
  by_cases g1 : 1 ≤ id
  · by_cases g2 : id % 2 = 1
    · have g2' : (id % 2 != 1) = false := by simp [g2]
      by_cases g3 : id ≤ last
      · have hs' : st < 1 ∨ 4 < st := by
          rcases hs with hs | hs
          · exact absurd ⟨g2, g1, g3⟩ hs
          · exact hs
        clear g2 hs
        rcases hs' with hs' | hs'
        all_goals
          go_enter Try.func24, Try.ntmps24
          go_wp2
          refine bodyPost_ret (results_none rfl _ _ _) rfl ?_
          exact ⟨rfl, rfl⟩
      · clear g2 hs
        go_enter Try.func24, Try.ntmps24
        go_wp2
        refine bodyPost_ret (results_none rfl _ _ _) rfl ?_
        exact ⟨rfl, rfl⟩
    · have g2' : (id % 2 != 1) = true := by simp [g2]
      clear g2 hs
      go_enter Try.func24, Try.ntmps24
      go_wp2
      refine bodyPost_ret (results_none rfl _ _ _) rfl ?_
      exact ⟨rfl, rfl⟩
  · clear hs
    go_enter Try.func24, Try.ntmps24
    go_wp2
    all_goals refine bodyPost_ret (results_none rfl _ _ _) rfl ?_
    all_goals exact ⟨rfl, rfl⟩
set_option maxHeartbeats 4000000 in
theorem put_yes {w : World} {N : Nat → Prop} {B sb : Nat} {l : List (Int × Int)} {last : Int} (h : IsRef w N B sb l last) (hl : l.length < 4294967296) (hBw : B ≤ w.heap.size) (hN : ∀ k, N k → k < w.heap.size) (id st : Int) (hid : -9223372036854775808 ≤ id ∧ id ≤ 9223372036854775807) (hok : okId last id) (hst : 1 ≤ st ∧ st ≤ 4) :
    Calls Try.prog 24 #[.pointer (some ⟨sb, 0, none⟩), .int .i64 id, .int .i64 st] w fun e w' => e = .returned (.tuple #[]) ∧ IsRef w' N B sb (putS l id st) last ∧ Mod (fun k => ¬ N k ∧ B ≤ k) w w' := by
  obtain ⟨hid1, hid2⟩ := hid
  obtain ⟨hst1, hst2⟩ := hst
  obtain ⟨g2, g1, g3⟩ := hok
  have g2' : (id % 2 != 1) = false := by simp [g2]
  obtain ⟨vi, vs, h⟩ := h
  have H := Lib.hid h
  obtain ⟨ai, ci, as', cs, rfl, rfl, h1, h2, h3, hel⟩ := h.elems
  have hc0 := h.c0
  have hc1 := h.c1
  have hc2 := h.c2
  have hf0 := h.f0
  have hf1 := h.f1
  have hslt := h.lt
  have HN := Lib.hid hN
  have HEL := Lib.hid hel
  clear hel h g2 hN
  go_enter Try.func24, Try.ntmps24
  go_wp2
  go_loop [6] (fun i => ∃ k : Nat, i = .int .i64 k ∧ k ≤ l.length ∧ Hid (lookS (l.take k) id = none)) (fun i => l.length - (intOf i).toNat)
  case atStart => exact ⟨0, rfl, by omega, rfl⟩
  case round =>
    obtain ⟨k, rfl, hk, HL⟩ := hrel
    by_cases hlt : k < l.length
    · obtain ⟨gi, gs, rfl, rfl, e1, e2, e3, e4, e5, e6, e7, e8⟩ := HEL.out k hlt
      obtain ⟨t1, t2⟩ := lookS_take l k hlt id HL.out
      have HP : Hid ((l.getD k (0, 0)).1 = id → putS l id st = l.set k (id, st)) := fun he => putS_at l k hlt id st HL.out he
      have HQ : Hid ((l.getD k (0, 0)).1 = id → RefAt (w.setCell ⟨gs, k, none⟩ (.int .i64 st)) N B sb _ _ (l.set k (id, st)) last) := fun he => H.out.set k hlt id st he
      generalize l.getD k (0, 0) = p at *
      have T1 := Lib.hid t1
      have E4 := Lib.hid e4
      have E5 := Lib.hid e5
      clear t1 t2 e4 e5
      by_cases q : p.1 = id
      · have q' : (p.1 == id) = true := by simpa using q
        have HP' := Lib.hid (HP.out q)
        have HQ' := Lib.hid (HQ.out q)
        clear q HP HQ
        go_wp2
        refine bodyPost_ret (results_none rfl _ _ _) rfl ?_
        exact ⟨rfl, ⟨_, _, by rw [HP'.out]; exact HQ'.out⟩, (Mod.refl _ w).setCell (p := ⟨gs, k, none⟩) (fun _ => ⟨E5.out, e6⟩) _⟩
      · have q' : (p.1 == id) = false := by simpa using q
        have T3 := T1.out
        rw [if_neg q] at T3
        have T4 := Lib.hid T3
        clear q T3 HP HQ
        go_wp2
        go_round
        case rel => exact ⟨k + 1, by go_num, by omega, T4.out⟩
        case measure => simp [intOf]; omega
    · have e : k = l.length := by omega
      have HE : Hid (lookS l id = none) := by
        have := HL.out
        rw [e, List.take_length] at this
        exact this
      have HP : Hid (putS l id st = l ++ [(id, st)]) := putS_new l id st HE.out
      clear e
      have hso : some sb ≠ (Value.slice ai l.length ci).ownBlock := fun e => (H.out.ni sb e.symm).2 rfl
      have hss : some sb ≠ (Value.slice as' l.length cs).ownBlock := fun e => (H.out.ns sb e.symm).2 rfl
      have HSO := Lib.hid hso
      have HSS := Lib.hid hss
      clear hso hss
      have hml : (l.map fun p => Value.int .i64 p.1).length = l.length := by simp
      have HML := Lib.hid hml
      have hmm : (l.map fun p => Value.int .i64 p.2).length = l.length := by simp
      have HMM := Lib.hid hmm
      clear hml hmm
      have HL1 : Hid (((l.map fun p => Value.int .i64 p.1) ++ [Value.int .i64 id]).length = l.length + 1) := by show _ = _; simp
      have HL2 : Hid (((l.map fun p => Value.int .i64 p.2) ++ [Value.int .i64 st]).length = l.length + 1) := by show _ = _; simp
      go_wp2_with (first
        | (at_builtin; refine RowsL.wpList_append1 elemI rfl _ _ rfl B _ (l.map fun p => Value.int .i64 p.1) rfl (H.out.oi.alloc _) w.heap.size 1 (.int .i64 id) rfl (RowsL.cell_new1 _ _ _) rfl (by rw [HML.out]; omega) (RowsL.le_alloc _ hBw) ?_; intro v1 w1 own1 bl1 gr1 pl1; obtain ⟨x1, y1, ev1, _⟩ := own1.slice; rw [HL1.out] at ev1; subst ev1; have OWN1 := Lib.hid own1; have GR1 := Lib.hid gr1; have PL1 := Lib.hid pl1; have hb1 := (gr1.block sb (by simp; omega) HSO.out).trans (Below.heap_alloc _ _ _ hslt); have q0 := (World.cell?_of_block (a := ⟨sb, 0, none⟩) hb1).trans hc0; have q1 := (World.cell?_of_block (a := ⟨sb, 1, none⟩) hb1).trans hc1; have r0 := (World.frozen?_of_block (a := ⟨sb, 0, none⟩) hb1).trans hf0; have r1 := (World.frozen?_of_block (a := ⟨sb, 1, none⟩) hb1).trans hf1; have z1 := gr1.size; simp only [World.size_alloc] at z1; have HK1 : Hid (∀ k, (Value.slice as' l.length cs).ownBlock = some k → w1.heap[k]? = w.heap[k]?) := fun k hk => (gr1.block k (by have := (H.out.os.lt k hk).2; simp; omega) (fun e => H.out.d k e.symm hk)).trans (Below.heap_alloc _ _ _ (H.out.os.lt k hk).2); clear own1 bl1 gr1 pl1 hb1)
        | (at_builtin; refine RowsL.wpList_append1 elemI rfl _ _ rfl B _ (l.map fun p => Value.int .i64 p.2) rfl (((H.out.os.of_block HK1.out).setCell ⟨sb, 0, none⟩ _ HSS.out.symm).alloc _) w1.heap.size 1 (.int .i64 st) rfl (RowsL.cell_new1s _ _ _ _ _) rfl (by rw [HMM.out]; omega) (RowsL.le_allocs _ _ _ (Nat.le_trans hBw (Nat.le_of_lt z1))) ?_; intro v2 w2 own2 bl2 gr2 pl2; obtain ⟨x2, y2, ev2, _⟩ := own2.slice; rw [HL2.out] at ev2; subst ev2; have OWN2 := Lib.hid own2; have GR2 := Lib.hid gr2; have PL2 := Lib.hid pl2; have hb2 := (gr2.block sb (by simp; omega) HSS.out).trans (Below.heap_alloc _ _ _ (by simp; omega)); have s1 := ((World.cell?_of_block (a := ⟨sb, 1, none⟩) hb2).trans (World.cell?_setCell_other _ _ _ _ (by simp))).trans q1; have s2 := (World.frozen?_of_block (a := ⟨sb, 1, none⟩) hb2).trans (World.frozen?_setCell _ _ _ _ |>.trans r1); clear own2 bl2 gr2 pl2 hb2))
      go_end0
      have fin := H.out.push hBw HN.out id st _ _ OWN1.out GR1.out PL1.out OWN2.out GR2.out PL2.out
      exact ⟨rfl, ⟨_, _, by rw [HP.out]; exact fin.1⟩, fin.2⟩
theorem RefAt.setLast {w : World} {N : Nat → Prop} {B sb : Nat} {vi vs : Value} {l : List (Int × Int)} {last : Int} (h : RefAt w N B sb vi vs l last) (id : Int) : RefAt (w.setCell ⟨sb, 2, none⟩ (.int .i64 id)) N B sb vi vs l id :=
  ⟨by rw [World.cell?_setCell_other _ _ _ _ (by simp)]; exact h.c0, by rw [World.cell?_setCell_other _ _ _ _ (by simp)]; exact h.c1, World.cell?_setCell_same _ _ _ h.c2, by simp [h.f0], by simp [h.f1], by simp [h.f2], h.sN, h.sB,
   h.oi.setCell _ _ (fun e => (h.ni sb e).2 rfl), h.os.setCell _ _ (fun e => (h.ns sb e).2 rfl), h.ni, h.ns, h.d⟩
set_option maxHeartbeats 2000000 in
theorem open_bad {w : World} {N : Nat → Prop} {B sb : Nat} {l : List (Int × Int)} {last : Int} (h : IsRef w N B sb l last) (hla : 0 ≤ last) (id : Int) (hid : -9223372036854775808 ≤ id ∧ id ≤ 9223372036854775807) (hb : openBad last id) :
    Calls Try.prog 23 #[.pointer (some ⟨sb, 0, none⟩), .int .i64 id] w fun e w' => e = .returned (.tuple #[.int .i64 1, .bool true]) ∧ w = w' := by
  obtain ⟨hid1, hid2⟩ := hid
  obtain ⟨vi, vs, h⟩ := h
  have h1 := h.c2
  clear h
  unfold openBad at hb
  by_cases g1 : 0 ≤ id
  · by_cases g2 : id % 2 = 1
    · have g2' : (id % 2 != 1) = false := by simp [g2]
      have g3 : id ≤ last := by omega
      clear g2 hb
      go_enter Try.func23, Try.ntmps23
      go_wp2
      go_ret2
      exact ⟨rfl, rfl⟩
    · have g2' : (id % 2 != 1) = true := by simp [g2]
      clear g2 hb
      go_enter Try.func23, Try.ntmps23
      go_wp2
      go_ret2
      exact ⟨rfl, rfl⟩
  · have g3 : id ≤ last := by omega
    clear hb
    go_enter Try.func23, Try.ntmps23
    go_wp2
    all_goals go_ret2
    all_goals exact ⟨rfl, rfl⟩
set_option maxHeartbeats 4000000 in
theorem open_ok {w : World} {N : Nat → Prop} {B sb : Nat} {l : List (Int × Int)} {last : Int} (h : IsRef w N B sb l last) (hl : l.length < 4294967296) (hBw : B ≤ w.heap.size) (hN : ∀ k, N k → k < w.heap.size) (hla : 0 ≤ last) (id : Int) (hid : -9223372036854775808 ≤ id ∧ id ≤ 9223372036854775807) (hb : ¬ openBad last id) :
    Calls Try.prog 23 #[.pointer (some ⟨sb, 0, none⟩), .int .i64 id] w fun e w' => Mod (fun k => ¬ N k ∧ B ≤ k) w w' ∧
      ((16 ≤ liveN l ∧ e = .returned (.tuple #[.int .i64 7, .bool false]) ∧ IsRef w' N B sb l id) ∨ (liveN l < 16 ∧ e = .returned (.tuple #[.int .i64 0, .bool false]) ∧ IsRef w' N B sb (putS l id 1) id)) := by
  obtain ⟨hid1, hid2⟩ := hid
  obtain ⟨vi, vs, h⟩ := h
  have h2 := h.c2
  have hf2 := h.f2
  have H : Hid (IsRef (w.setCell ⟨sb, 2, none⟩ (.int .i64 id)) N B sb l id) := ⟨vi, vs, h.setLast id⟩
  have HM : Hid (Mod (fun k => ¬ N k ∧ B ≤ k) w (w.setCell ⟨sb, 2, none⟩ (.int .i64 id))) := (Mod.refl _ w).setCell (p := ⟨sb, 2, none⟩) (fun _ => ⟨h.sN, h.sB⟩) _
  have hb' : id % 2 = 1 ∧ last < id := by simpa [openBad] using hb
  obtain ⟨g2, g3⟩ := hb'
  have g2' : (id % 2 != 1) = false := by simp [g2]
  have hnl : (liveN l : Nat) ≤ l.length := List.length_filter_le _ _
  have HP := Lib.hid (put_yes H.out hl (by simp; omega) (by simpa using hN) id 1 ⟨hid1, hid2⟩ ⟨g2, by omega, Int.le_refl _⟩ (by omega))
  clear h g2 hb hN
  by_cases hn : 16 ≤ liveN l
  · go_enter Try.func23, Try.ntmps23
    go_wp2_with (go_at_call 26; refine (many_any H.out).mono ?_; rintro e w' ⟨rfl, rfl⟩)
    go_ret2
    exact ⟨HM.out, .inl ⟨hn, rfl, H.out⟩⟩
  · go_enter Try.func23, Try.ntmps23
    go_wp2_with (first
      | (go_at_call 26; refine (many_any H.out).mono ?_; rintro e w' ⟨rfl, rfl⟩)
      | (go_at_call 24; refine HP.out.mono ?_; rintro e w' ⟨rfl, hR, hM⟩; have HR := Lib.hid hR; have HM2 := Lib.hid hM; clear hR hM))
    go_ret2
    exact ⟨HM.out.trans HM2.out, .inr ⟨by omega, rfl, HR.out⟩⟩
end Go.Proofs.Ytpbaanoheeghlaa.SRef
