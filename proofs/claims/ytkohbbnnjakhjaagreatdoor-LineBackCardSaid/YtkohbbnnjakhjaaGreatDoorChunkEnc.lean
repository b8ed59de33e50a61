/-
  chunk.Encode over this seat's translation: the pieces, one behind the other.
  Conditions: the table of math/bits as it is laid.
-/
import Derived.Test.YtkohbbnnjakhjaaGreatDoorChunkIter
import Derived.Test.YtkohbbnnjakhjaaGreatDoorOrders
import Derived.Test.YtkohbbnnjakhjaaGreatDoorHex
import Derived.Test.YtkohbbnnjakhjaaGreatDoorConv
import Derived.Stop.RegionWithIn
import Derived.Lib.AppendStr
import Derived.OwnWalkIn
namespace Go.Proofs.YtkohbbnnjakhjaaGreatDoor.ChunkC
open Go.RowKit Go.Shelf BA ChunkI HexC SlicesB OrdersL
set_option linter.unusedVariables false
set_option linter.unusedSimpArgs false

attribute [local go_sem] Oper.semAt_some

/-- A piece, written. -/
def enc1 (l : List Int) : List Int := hexL l.length ++ [13, 10] ++ l ++ [13, 10]
def encAll (ls : List (List Int)) : List Int := ls.flatMap enc1
def tail5 : List Int := [48, 13, 10, 13, 10]
/-- The k-th piece's bytes. -/
def cut (l : List Int) (sz k : Nat) : List Int := (l.drop (k * sz)).take sz
/-- A piece of what came in. -/
abbrev Pc (w : World) : Type := { p : Value × List Int // BytesAt w p.1 p.2 ∧ p.2.length ≤ 8000 }
theorem cell_new (W : World) (cs : Array Value) (t : TypeId) (b i : Nat) (hb : b = W.heap.size) : (W.alloc (.cells cs t)).cell? ⟨b, i, none⟩ = cs[i]? := by subst hb; simp
theorem at_own {w : World} {B n : Nat} {v : Value} {l : List Int} (h : w.ownsRow B 5 1 v n (BytesL.valB l)) (hn : n = l.length) : BytesAt w v l := BytesAt.of_own (b := B) (by subst hn; exact h)
/-- A literal's row, whatever its mark. -/
def Lit (B : Nat) (w : World) (v : Value) : Prop := ∃ b fr, v = .slice (some ⟨b, 0, none⟩) 2 2 ∧ B ≤ b ∧ w.heap[b]? = some (.cells #[.int .u8 13, .int .u8 10] 5 fr)
theorem Lit.at {B : Nat} {w : World} {v : Value} (h : Lit B w v) : BytesAt w v [13, 10] := by
  obtain ⟨b, fr, rfl, _, hb⟩ := h
  have hlt := (Array.getElem?_eq_some_iff.1 hb).1
  refine ⟨some ⟨b, 0, none⟩, 2, rfl, by simp [BytesL.valB], by decide, by simp, fun i hi => ⟨b, 0, rfl, hlt, ?_⟩⟩
  have : i < 2 := by simpa [BytesL.valB] using hi
  match i, this with
  | 0, _ => simp [World.cell?, hb, BytesL.valB]
  | 1, _ => simp [World.cell?, hb, BytesL.valB]
theorem Lit.below {B : Nat} {w w' : World} {v : Value} (h : Lit B w v) (hB : Below w.heap.size w w') : Lit B w' v := by
  obtain ⟨b, fr, e, h1, hb⟩ := h
  exact ⟨b, fr, e, h1, (hB.block b (Array.getElem?_eq_some_iff.1 hb).1).trans hb⟩
/-- What a mark turns. -/
structure Marked (b : Nat) (w w' : World) : Prop where
  os : w'.os = w.os
  tape : w'.tape = w.tape
  output : w'.output = w.output
  size : w'.heap.size = w.heap.size
  block : ∀ k, k ≠ b → w'.heap[k]? = w.heap[k]?
  here : ∀ c t fr, w.heap[b]? = some (.cells c t fr) → ∃ fr', w'.heap[b]? = some (.cells c t fr')
theorem marked_freeze (w : World) (b k : Nat) : Marked b w (w.freeze ⟨b, k, none⟩ 1) := by
  unfold World.freeze
  rw [if_neg (by decide)]
  refine ⟨rfl, rfl, rfl, by simp, fun j hj => ?_, fun c t fr h => ?_⟩
  · show (w.heap.modify b _)[j]? = _
    rw [Array.getElem?_modify, if_neg (Ne.symm hj)]
  · obtain ⟨lo, hi⟩ := fr
    refine ⟨if lo == hi then (k, k + 1) else (min lo k, max hi (k + 1)), ?_⟩
    show (w.heap.modify b _)[b]? = _
    rw [Array.getElem?_modify, if_pos rfl, h]
    rfl
theorem Marked.below {b B : Nat} {w w' : World} (h : Marked b w w') (hb : B ≤ b) : Below B w w' := ⟨h.os, h.tape, h.output, Nat.le_of_eq h.size.symm, fun k hk => h.block k (by omega)⟩
theorem Marked.cell {b : Nat} {w w' : World} (h : Marked b w w') (c : Array Value) (t : TypeId) (fr : Nat × Nat) (hc : w.heap[b]? = some (.cells c t fr)) (p : Addr) : w'.cell? p = w.cell? p := by
  by_cases hp : p.block = b
  · obtain ⟨fr', h'⟩ := h.here c t fr hc
    simp only [World.cell?, hp, hc, h']
  · simp only [World.cell?, h.block _ hp]
theorem Marked.at {b : Nat} {w w' : World} (h : Marked b w w') (c : Array Value) (t : TypeId) (fr : Nat × Nat) (hc : w.heap[b]? = some (.cells c t fr)) {v : Value} {l : List Int} (hv : BytesAt w v l) : BytesAt w' v l := by
  obtain ⟨a, cap, h1, h2, h3, h4, h5⟩ := hv
  refine ⟨a, cap, h1, h2, h3, h4, fun i hi => ?_⟩
  obtain ⟨b1, off, e, hb1, hcc⟩ := h5 i hi
  exact ⟨b1, off, e, by rw [h.size]; exact hb1, (h.cell c t fr hc _).trans hcc⟩
theorem Marked.lit {b B : Nat} {w w' : World} (h : Marked b w w') {v : Value} (hv : Lit B w v) : Lit B w' v := by
  obtain ⟨b1, fr, e, h1, hb⟩ := hv
  by_cases h2 : b1 = b
  · subst h2
    obtain ⟨fr', h'⟩ := h.here _ _ _ hb
    exact ⟨b1, fr', e, h1, h'⟩
  · exact ⟨b1, fr, e, h1, (h.block _ h2).trans hb⟩
theorem run_mark (w : World) (b n c : Nat) (C : Array Value) (fr : Nat × Nat) (h : w.heap[b]? = some (.cells C 5 fr)) :
    (convert 23 23 (.slice (some ⟨b, 0, none⟩) n c)).run Tryz.prog w = .ok (.slice (some ⟨b, 0, none⟩) n c) (w.freeze ⟨b, C.size, none⟩ 1) := by
  have hsh : w.shape? b = some (5, C.size) := by simp [World.shape?, h]
  simp [convert, run_underlying Tryz.underlying23, run_underlying Tryz.underlying5, markStringish, hsh]
/-- What the slots of the round's own statement hold, each as soon as it is done. -/
def Good (B : Nat) (L0 xv lenv : Value) (l0 hx lx : List Int) (j : Nat) (v : Value) (w : World) : Prop :=
  match j with
  | 0 => v = L0
  | 1 => v = xv
  | 2 => v = lenv
  | 3 => ∃ a c, v = .slice a hx.length c ∧ BytesAt w v hx
  | 4 => Lit B w v
  | 5 => Lit B w v
  | 6 => v = xv
  | 7 => Lit B w v
  | 8 => Lit B w v
  | 9 => ∃ b vs, v = .slice (some ⟨b, 0, none⟩) 5 5 ∧ RowsAt w v vs [l0, hx, [13, 10], lx, [13, 10]]
  | 10 => ∃ a c, v = .slice a (l0 ++ (hx ++ [13, 10] ++ lx ++ [13, 10])).length c ∧ BytesL.Own w B v (l0 ++ (hx ++ [13, 10] ++ lx ++ [13, 10]))
  | _ => True
theorem RowsAt.below {w w' : World} {v : Value} {vs : List Value} {ls : List (List Int)} (h : RowsAt w v vs ls) (hB : Below w.heap.size w w') : RowsAt w' v vs ls := by
  obtain ⟨h1, h2, h3⟩ := h
  exact ⟨h1.below hB, h2, fun i hi => by obtain ⟨x, hx, hb⟩ := h3 i hi; exact ⟨x, hx, hb.below hB⟩⟩
theorem Good.below {B : Nat} {L0 xv lenv v : Value} {l0 hx lx : List Int} {j : Nat} {w w' : World} (h : Good B L0 xv lenv l0 hx lx j v w) (hB : Below w.heap.size w w') : Good B L0 xv lenv l0 hx lx j v w' := by
  unfold Good at *
  split at h
  · exact h
  · exact h
  · exact h
  · obtain ⟨a, c, e, h⟩ := h; exact ⟨a, c, e, h.below hB⟩
  · exact h.below hB
  · exact h.below hB
  · exact h
  · exact h.below hB
  · exact h.below hB
  · obtain ⟨b, vs, e, h⟩ := h; exact ⟨b, vs, e, RowsAt.below h hB⟩
  · obtain ⟨a, c, e, h⟩ := h; exact ⟨a, c, e, h.below hB⟩
  · trivial
theorem Good.marked {B b : Nat} {L0 xv lenv v : Value} {l0 hx lx : List Int} {j : Nat} {w w' : World} (h : Good B L0 xv lenv l0 hx lx j v w) (hj : j < 9) (hM : Marked b w w') (c : Array Value) (t : TypeId) (fr : Nat × Nat) (hc : w.heap[b]? = some (.cells c t fr)) : Good B L0 xv lenv l0 hx lx j v w' := by
  unfold Good at *
  split at h
  · exact h
  · exact h
  · exact h
  · obtain ⟨a, c', e, h⟩ := h; exact ⟨a, c', e, hM.at c t fr hc h⟩
  · exact hM.lit h
  · exact hM.lit h
  · exact h
  · exact hM.lit h
  · exact hM.lit h
  · omega
  · omega
  · trivial
/-- The whole statement's invariant. -/
def InvE (W : World) (B : Nat) (L0 xv lenv : Value) (l0 hx lx : List Int) (mk : (Nat → Value) → Act) (bs : Array Bool) (a : Act) (w' : World) : Prop :=
  ∃ f : Nat → Value, a = mk f ∧
    (bs.getD 11 false = true → ∃ a2 c2, Boxed w' B 23 (.slice a2 (l0 ++ (hx ++ [13, 10] ++ lx ++ [13, 10])).length c2) ∧ BytesL.Own w' B (.slice a2 (l0 ++ (hx ++ [13, 10] ++ lx ++ [13, 10])).length c2) (l0 ++ (hx ++ [13, 10] ++ lx ++ [13, 10])) ∧ KeepsOthers W w' ∧ Below B W w' ∧ KpC (B + 1) (B + 1 + 1) W w') ∧
    (bs.getD 11 false = false → Below W.heap.size W w' ∧ ∀ j, bs.getD j false = true → Good W.heap.size L0 xv lenv l0 hx lx j (f j) w')
theorem InvE.put {W : World} {B : Nat} {L0 xv lenv : Value} {l0 hx lx : List Int} {mk : (Nat → Value) → Act} {bs : Array Bool} {a : Act} {w' : World} (hs : bs.size = 12) (i : Nat) (hi : i < 11) (h11 : bs.getD 11 false = false)
    (f : Nat → Value) (v' : Value) (ha : a = mk (fun j => if j = i then v' else f j)) (hB : Below W.heap.size W w') (hg : Good W.heap.size L0 xv lenv l0 hx lx i v' w')
    (hr : ∀ j, bs.getD j false = true → Good W.heap.size L0 xv lenv l0 hx lx j (f j) w') : InvE W B L0 xv lenv l0 hx lx mk (bs.setIfInBounds i true) a w' := by
  refine ⟨_, ha, fun h => ?_, fun _ => ⟨hB, fun j hj => ?_⟩⟩
  · rw [getD_put (by omega), if_neg (by omega), h11] at h; cases h
  · rw [getD_put (by omega)] at hj
    by_cases hji : j = i
    · subst hji; simpa using hg
    · simp only [hji, if_false]; exact hr j (by simpa [Ne.symm hji, show ¬ i = j from fun e => hji e.symm] using hj)
theorem recap {w : World} {A : Option Addr} {n c c' : Nat} {l : List Int} (h : BytesAt w (.slice A n c) l) (h1 : l.length ≤ c') (h2 : c' ≤ 9223372036854775807) (h3 : A = none → c' = 0) : BytesAt w (.slice A n c') l := by
  obtain ⟨a, cap, e, _, _, _, h4⟩ := h
  simp only [Value.slice.injEq] at e
  obtain ⟨rfl, rfl, rfl⟩ := e
  exact ⟨A, c', rfl, by simpa [BytesL.valB] using h1, h2, h3, h4⟩
theorem cut_len (l : List Int) (sz k : Nat) : (cut l sz k).length = min sz (l.length - k * sz) := by simp [cut]
theorem piece_at {w : World} {b off cap sz k : Nat} {l : List Int} (h : BytesAt w (.slice (some ⟨b, off, none⟩) l.length cap) l) (hk : k * sz ≤ l.length) (hl : l.length ≤ 8000) : BytesAt w (piece b off l.length sz k) (cut l sz k) := by
  have h1 := bytesAt_take (bytesAt_drop h (k * sz) hk) (min sz (l.length - k * sz)) (by rw [List.length_drop]; omega)
  have e : (l.drop (k * sz)).take (min sz (l.length - k * sz)) = cut l sz k := by
    unfold cut
    rcases Nat.le_total sz (l.length - k * sz) with h2 | h2
    · rw [Nat.min_eq_left h2]
    · rw [Nat.min_eq_right h2, List.take_of_length_le (by rw [List.length_drop]; exact Nat.le_refl _), List.take_of_length_le (by rw [List.length_drop]; exact h2)]
  rw [e] at h1
  exact recap h1 (by rw [cut_len]; exact Nat.le_refl _) (by omega) (by simp)
/-- The pieces, each with its reading. -/
noncomputable def pcs (w : World) (b off sz : Nat) (l : List Int) (h : ∀ k, k * sz ≤ l.length → BytesAt w (piece b off l.length sz k) (cut l sz k)) (hl : l.length ≤ 8000) (k : Nat) : Pc w :=
  if hk : k * sz ≤ l.length then ⟨(piece b off l.length sz k, cut l sz k), h k hk, by rw [cut_len]; omega⟩ else ⟨(.slice none 0 0, []), ⟨none, 0, rfl, by simp [BytesL.valB], by simp, by simp, by simp [BytesL.valB]⟩, by simp⟩
theorem hexL_len {n : Nat} (h : n ≤ 8000) : (hexL n).length ≤ 4 := by
  have step : ∀ m k, m < 16 ^ (k + 1) → (hexL m).length ≤ k + 1 := by
    intro m k
    induction k generalizing m with
    | zero => intro hm; rw [hexL_small (by simpa using hm)]; simp
    | succ k ih =>
      intro hm
      by_cases h16 : m < 16
      · rw [hexL_small h16]; simp
      · rw [hexL_big h16, List.length_append, List.length_singleton]
        have := ih (m / 16) (by rw [Nat.div_lt_iff_lt_mul (by decide)]; rw [Nat.pow_succ] at hm; exact hm)
        omega
  exact step n 3 (by have : (16 : Nat) ^ 4 = 65536 := by decide
                     rw [this]; omega)
theorem enc1_len {l : List Int} (h : l.length ≤ 8000) : (enc1 l).length ≤ 8008 := by
  have := hexL_len h
  simp only [enc1, List.length_append, List.length_cons, List.length_nil]; omega
theorem encAll_len (ls : List (List Int)) (h : ∀ l ∈ ls, l.length ≤ 8000) : (encAll ls).length ≤ ls.length * 8008 := by
  induction ls with
  | nil => simp [encAll]
  | cons a ls ih =>
    have h1 := enc1_len (h a (by simp))
    have h2 := ih (fun l hl => h l (by simp [hl]))
    simp only [encAll, List.flatMap_cons, List.length_append, List.length_cons] at h2 ⊢
    omega
theorem encAll_snoc (ls : List (List Int)) (l : List Int) : encAll (ls ++ [l]) = encAll ls ++ enc1 l := by simp [encAll]
theorem row_form {w : World} {B n : Nat} {e : TypeId} {v : Value} {xs : List Value} (h : w.ownsRow B e 1 v n xs) : ∃ a c, v = .slice a n c := by
  obtain ⟨_, ⟨rfl, rfl⟩ | ⟨g, cap, cur, rfl, _⟩⟩ := h
  · exact ⟨none, 0, rfl⟩
  · exact ⟨_, cap, rfl⟩
/-- append(b, "..") in a fence. -/
theorem wpListIn_append_str {F : Fence} {n' : Nat} {ops : Array Oper} {rest : List Oper} {o : Oper} {a : Act} {Q : Exit → Act → World → Prop} (w : World) (hgd : o.guard = none) (sl x : Operand)
    (ho : o.op = .call { callee := .builtin .append, args := #[sl, x], argTypes := #[23, 9] })
    (base : Nat) (v : Value) (l : List Int) (hs : a.eval sl = v) (hown : BytesL.Own w base v l) (s : ByteArray) (hx : a.eval x = .string s) (hlen : l.length + s.size ≤ 140737488355328) (hbase : base ≤ w.heap.size)
    (h : ∀ v' w', w'.ownsRow base 5 1 v' (l.length + s.size) (BytesL.valB l ++ Lib.strCells s) → w.grownBy w' v.ownBlock → wpListIn F n' Tryz.prog ops Q rest (a.put o.dst v') w') : wpListIn F n' Tryz.prog ops Q (o :: rest) a w := by
  obtain ⟨i0, hi, hz0, hz1, hz2⟩ := info_parts BytesL.infoB
  refine wpListIn_plain hgd fun K hK => ?_
  obtain ⟨v', w', hr, h2, h3⟩ := Lib.run_append_own_string (P := Tryz.prog) w base 23 9 o.type 5 i0 Tryz.underlying23 Tryz.underlying9 hi hz0 hz1 hz2 v l.length (BytesL.valB l) hown s (by unfold maxLen; omega) (by omega) hbase
  unfold Oper.wpIn
  refine ⟨?_, ?_⟩
  · simp [Oper.about, ho, resolve, Target.leads, Sem.run_pure]
  · rw [Oper.semAt_plain F _ _ (by rw [ho]; intro c hc'; cases hc')]
    simp [execOp, ho, resolve, invoke, builtin, hs, hx, hr, Result.andThen]
    exact hK _ _ (h v' w' h2 h3.1)
set_option maxRecDepth 100000 in
set_option maxHeartbeats 2000000 in
theorem encode_ok (a : Option Addr) (cap sz : Nat) (l : List Int) (w : World) (hb : BytesAt w (.slice a l.length cap) l) (hsz : 1 ≤ sz ∧ sz ≤ 8000) (hl : l.length ≤ 8000) (hT : Tab16 w) :
    Calls Tryz.prog 26 #[.slice a l.length cap, .int .i64 sz] w fun e w' => ∃ v, e = .returned (.tuple #[v, .nilIface]) ∧ BytesL.Own w' w.heap.size v (encAll (upto (cut l sz) (pieces l.length sz)) ++ tail5) ∧ Below w.heap.size w w' := by
  refine (callsIn_wide (n := 9)).1 ?_
  obtain ⟨hsz1, hsz2⟩ := hsz
  obtain ⟨a0, c0, e0, hc1, hc2, hnil, hel⟩ := hb.open
  simp only [Value.slice.injEq] at e0
  obtain ⟨rfl, _, rfl⟩ := e0
  have t1 : ¬ ((sz : Int) < 1) := by omega
  have t2 : ¬ (8000 < (sz : Int)) := by omega
  have t3 : ¬ (8000 < (l.length : Int)) := by omega
  refine callsIn_of_wp_marks Tryz.func26 rfl trivial ?_ rfl
  simp only [Tryz.ntmps26, List.size_toArray, List.length_cons, List.length_nil, Nat.reduceAdd, Nat.reduceSub, Array.replicate_succ, Array.replicate_zero, List.push_toArray, List.append_toArray, List.nil_append, List.cons_append]
  have hfC : Fence.wide.fn 44 := trivial
  gi_wp2_with (gi_at_call 44; refine (chunk_in Fence.wide _ trivial rfl a l.length cap sz hsz1 _).mono ?_; rintro e w' ⟨rfl, rfl⟩)
  have bO := Boxed.new w 23 (.slice none 0 0)
  have bO2 := bO.alloc (.cells #[.slice a l.length cap] 23)
  have bO3 := bO2.alloc (.cells #[.int .i64 sz] 3)
  have hB0 : Below w.heap.size w (((w.alloc (.cells #[.slice none 0 0] 23)).alloc (.cells #[.slice a l.length cap] 23)).alloc (.cells #[.int .i64 sz] 3)) := (((Below.refl _ w).alloc (Nat.le_refl _) _).alloc (by simp) _).alloc (by simp; omega) _
  have hcs : (((w.alloc (.cells #[.slice none 0 0] 23)).alloc (.cells #[.slice a l.length cap] 23)).alloc (.cells #[.int .i64 sz] 3)).cell? ⟨w.heap.size + 1, 0, none⟩ = some (.slice a l.length cap) := by
    rw [((Below.refl (w.heap.size + 2) _).alloc (by simp) _).cell (p := ⟨w.heap.size + 1, 0, none⟩) (by simp)]
    exact (cell_new (w.alloc (.cells #[.slice none 0 0] 23)) #[.slice a l.length cap] 23 (w.heap.size + 1) 0 (by simp)).trans rfl
  have hcn : (((w.alloc (.cells #[.slice none 0 0] 23)).alloc (.cells #[.slice a l.length cap] 23)).alloc (.cells #[.int .i64 sz] 3)).cell? ⟨w.heap.size + 1 + 1, 0, none⟩ = some (.int .i64 sz) := (cell_new _ #[.int .i64 sz] 3 (w.heap.size + 1 + 1) 0 (by simp)).trans rfl
  have hsz0 : (((w.alloc (.cells #[.slice none 0 0] 23)).alloc (.cells #[.slice a l.length cap] 23)).alloc (.cells #[.int .i64 sz] 3)).heap.size = w.heap.size + 3 := by simp
  generalize ((w.alloc (.cells #[.slice none 0 0] 23)).alloc (.cells #[.slice a l.length cap] 23)).alloc (.cells #[.int .i64 sz] 3) = W0 at *
  obtain ⟨fp, hfp1, hfp2⟩ : ∃ fp : Nat → Pc w, (∀ k, k < pieces l.length sz → ∃ b off, a = some ⟨b, off, none⟩ ∧ (fp k).1.1 = piece b off l.length sz k) ∧ ∀ k, k < pieces l.length sz → (fp k).1.2 = cut l sz k := by
    cases a with
    | none =>
      have h0 : l.length = 0 := by have := hnil rfl; omega
      exact ⟨fun _ => ⟨(.slice none 0 0, []), ⟨none, 0, rfl, by simp [BytesL.valB], by simp, by simp, by simp [BytesL.valB]⟩, by simp⟩, fun k hk => by rw [h0, pieces_zero sz hsz1] at hk; omega, fun k hk => by rw [h0, pieces_zero sz hsz1] at hk; omega⟩
    | some x =>
      by_cases h0 : l.length = 0
      · exact ⟨fun _ => ⟨(.slice none 0 0, []), ⟨none, 0, rfl, by simp [BytesL.valB], by simp, by simp, by simp [BytesL.valB]⟩, by simp⟩, fun k hk => by rw [h0, pieces_zero sz hsz1] at hk; omega, fun k hk => by rw [h0, pieces_zero sz hsz1] at hk; omega⟩
      · obtain ⟨b, off, e, _, _⟩ := hel 0 (by omega)
        obtain rfl := Option.some.inj e
        refine ⟨pcs w b off sz l (fun k hk => piece_at hb hk hl) hl, fun k hk => ⟨b, off, rfl, ?_⟩, fun k hk => ?_⟩
        · have h1 := (lt_pieces hsz1).1 hk
          unfold pcs; rw [dif_pos (by omega)]
        · have h1 := (lt_pieces hsz1).1 hk
          unfold pcs; rw [dif_pos (by omega)]
  have hreach : l.length ≤ 1000000 ∧ sz ≤ 1000000 := ⟨by omega, by omega⟩
  have hst := chunk_stops (fun x : Pc w => x.1.1) fp (9 - 1) (by decide) (w.heap.size + 1) (w.heap.size + 1 + 1) l.length cap sz a ⟨hc1, hc2⟩ hsz1 hreach W0 (by omega) (by omega) hfp1 hcs hcn
  have hpz : pieces l.length sz ≤ 8000 := by
    rcases Nat.eq_zero_or_pos (pieces l.length sz) with h | h
    · omega
    · have := (lt_pieces (len := l.length) (k := pieces l.length sz - 1) hsz1).1 (by omega)
      have h2 : (pieces l.length sz - 1) * 1 ≤ (pieces l.length sz - 1) * sz := Nat.mul_le_mul_left _ hsz1
      omega
  refine wpIn_rangeFunc_ownG rfl (by decide) (gf := 60) (lb := #[.pointer (some ⟨w.heap.size + 1, 0, none⟩), .pointer (some ⟨w.heap.size + 1 + 1, 0, none⟩)]) rfl trivial (enters_of Tryz.func60 (by kernel_rfl) rfl) hst (fun h k => h.trans k) (KpC.put (by omega) (by omega)) (Below.refl _ _) (fun _ => rfl)
    (fun pre W => (∃ v, Boxed W w.heap.size 23 v ∧ W.ownsRow w.heap.size 5 1 v (encAll (pre.map fun x => x.1.2)).length (BytesL.valB (encAll (pre.map fun x => x.1.2))) ∧ True) ∧ Below w.heap.size W0 W)
    (fun _ _ _ => False)
    (OwnFrom.and (Own.from (holdsRow_own w.heap.size w.heap.size 23 5 1 (fun pre : List (Pc w) => (encAll (pre.map fun x => x.1.2)).length) (fun pre : List (Pc w) => BytesL.valB (encAll (pre.map fun x => x.1.2))) (fun _ _ => True)) _) (ownFrom_below (by omega) (by omega)))
    (fun _ _ _ _ _ hs _ _ => hs)
    ⟨⟨_, bO3, World.ownsRow_nil _ _ _ _, trivial⟩, Below.refl _ _⟩
    (fun x => { tmps := #[.slice a l.length cap, .int .i64 sz, undef, undef, .slice none 0 0, .nilIface, .pointer (some ⟨w.heap.size, 0, none⟩), x.1.1, .bool false, .int .i64 sz, .bool false, .bool false, .int .i64 sz, .bool false, .bool false, undef, .bool false, .slice a l.length cap, .int .i64 l.length, .bool false, undef, .slice a l.length cap, .int .i64 sz,
      .func (.func 60) #[] #[.pointer (some ⟨w.heap.size + 1, 0, none⟩), .pointer (some ⟨w.heap.size + 1 + 1, 0, none⟩)], x.1.1, undef, undef, undef, undef, undef, undef, undef, undef, undef, undef, undef, undef, undef], defers := [] }) ?assign ?body ?done ?stop
  case assign =>
    intro l x W K hK
    gi_wp2
    exact hK
  case body =>
    rintro lr pre x W ⟨⟨v, hv, hrow, _⟩, hBx⟩ hlt
    have hB := hB0.trans hBx
    have hW0s := hBx.size
    have hx1 := x.2.1
    have hx2 := x.2.2
    obtain ⟨av, cv, rfl⟩ := row_form hrow
    have hx3 := hx1.below hB
    obtain ⟨ax, cx, hvx, hcx1, hcx2, hxn, hxe⟩ := hx3.open
    rw [hvx] at hx3 ⊢
    obtain ⟨lx, hlx⟩ : ∃ lx, x.1.2 = lx := ⟨_, rfl⟩
    rw [hlx] at hx2 hx3 hcx1 ⊢
    have HLX := Lib.hid hlx
    have HX3 := Lib.hid hx3
    clear hx3 hxe hx1 hvx hlx
    have hcl : (encAll (pre.map fun x => x.1.2)).length ≤ pre.length * 8008 := by have h := encAll_len (pre.map fun x => x.1.2) (fun l hl => by obtain ⟨x, _, rfl⟩ := List.mem_map.1 hl; exact x.2.2); simpa using h
    have hc := hv.cell
    have hf := hv.frozen
    have hTW := hT.below hB hT.2
    have hA2 : ∀ W', Tab16 W' → CallsIn (Fence.wide.inRound lr) 6 Tryz.prog 46 #[.slice none 0 0, .int .i64 lx.length, .int .i64 16] W' fun e w' => ∃ a1 c1, e = .returned (.slice a1 (hexL lx.length).length c1) ∧ BytesL.Own w' W'.heap.size (.slice a1 (hexL lx.length).length c1) (hexL lx.length) ∧ Below W'.heap.size W' w' := fun W' hT' => CallsIn.inRound lr (callsIn_wide.2 ((append_any lx.length (by omega) W' hT').mono fun e w' h => by obtain ⟨v, he, hO, hBB⟩ := h; obtain ⟨a1, c1, rfl, _⟩ := hO.slice; exact ⟨a1, c1, he, hO, hBB⟩))
    generalize hl0 : encAll (pre.map fun x => x.1.2) = l0 at *
    have hLAt := at_own hrow rfl
    have hx4 := hexL_len hx2
    obtain ⟨hx, hhx⟩ : ∃ hx, hexL lx.length = hx := ⟨_, rfl⟩
    rw [hhx] at hA2 hx4
    have HHX := Lib.hid hhx
    clear hhx
    have hCC : ∀ W' v vs, RowsAt W' v vs [l0, hx, [13, 10], lx, [13, 10]] → CallsIn (Fence.wide.inRound lr) 6 Tryz.prog 45 #[v] W' fun e w' => ∃ a' c', e = .returned (.slice a' (l0 ++ (hx ++ [13, 10] ++ lx ++ [13, 10])).length c') ∧ BytesL.Own w' W'.heap.size (.slice a' (l0 ++ (hx ++ [13, 10] ++ lx ++ [13, 10])).length c') (l0 ++ (hx ++ [13, 10] ++ lx ++ [13, 10])) ∧ Below W'.heap.size W' w' := fun W' v vs hR => CallsIn.inRound lr (callsIn_wide.2 ((concat_any v vs _ W' hR (by simp [sumLen]; omega)).mono fun e w' h => by
      obtain ⟨v', rfl, hO, hBB⟩ := h
      have e1 : [l0, hx, [13, 10], lx, [13, 10]].flatten = l0 ++ (hx ++ [13, 10] ++ lx ++ [13, 10]) := by simp
      rw [e1] at hO
      obtain ⟨a', c', rfl, _⟩ := hO.slice
      exact ⟨a', c', rfl, hO, hBB⟩))
    gi_wp2
    refine wpIn_region_inv (by kernel_rfl) (InvE W w.heap.size (.slice av l0.length cv) (.slice ax lx.length cx) (.int .i64 lx.length) l0 hx lx (fun f => { tmps := #[.slice a l.length cap, .int .i64 sz, undef, undef, .slice none 0 0, .nilIface, .pointer (some ⟨w.heap.size, 0, none⟩), .slice ax lx.length cx, .bool false, .int .i64 sz, .bool false, .bool false, .int .i64 sz, .bool false, .bool false, undef, .bool false, .slice a l.length cap, .int .i64 l.length, .bool false, undef, .slice a l.length cap, .int .i64 sz,
      .func (.func 60) #[] #[.pointer (some ⟨w.heap.size + 1, 0, none⟩), .pointer (some ⟨w.heap.size + 1 + 1, 0, none⟩)], .slice ax lx.length cx, f 0, f 1, f 2, f 3, f 4, f 5, f 6, f 7, f 8, f 9, f 10, undef, undef], defers := [] })) (by kernel_rfl) ?rdone ?rstep ?rinit
    case rinit => exact ⟨fun _ => undef, rfl, by simp [Array.getD], fun _ => ⟨⟨rfl, rfl, rfl, Nat.le_refl _, fun _ _ => rfl⟩, by simp [Array.getD]⟩⟩
    case rdone =>
      rintro bs a' w' hs hall ⟨f, rfl, hF, _⟩
      obtain ⟨a2, c2, hb2, hO2, hK2, hB2, hKC⟩ := hF (hall 11 (by decide))
      gi_wp2
      refine ⟨hK2.from _, hKC, ⟨_, hb2, ?_, trivial⟩, hBx.trans hB2⟩
      simp only [List.map_append, List.map_cons, List.map_nil, encAll_snoc, hl0, HLX.out, enc1, HHX.out]
      exact hO2
    case rstep =>
      rintro bs a' w' i o hs hcl ⟨f, rfl, hF, hG⟩ hi ho hli hed
      have hs' : bs.size = 12 := hs
      have hi' : i < 12 := hi
      have hc11 := hcl 11 _ rfl
      have hc10 := hcl 10 _ rfl
      have hc9 := hcl 9 _ rfl
      have n11 : bs.getD 11 false = false := by
        cases h : bs.getD 11 false with
        | false => rfl
        | true =>
          have h1 := hc11 h
          rcases (by omega : i = 0 ∨ i = 1 ∨ i = 2 ∨ i = 3 ∨ i = 4 ∨ i = 5 ∨ i = 6 ∨ i = 7 ∨ i = 8 ∨ i = 9 ∨ i = 10 ∨ i = 11) with rfl | rfl | rfl | rfl | rfl | rfl | rfl | rfl | rfl | rfl | rfl | rfl
          · exact (Bool.noConfusion ((h1 { on := 0, ground := .phase } (by simp) rfl).symm.trans hli))
          · exact (Bool.noConfusion ((h1 { on := 1, ground := .phase } (by simp) rfl).symm.trans hli))
          · exact (Bool.noConfusion ((h1 { on := 2, ground := .phase } (by simp) rfl).symm.trans hli))
          · exact (Bool.noConfusion ((h1 { on := 3, ground := .phase } (by simp) rfl).symm.trans hli))
          · exact (Bool.noConfusion ((h1 { on := 4, ground := .phase } (by simp) rfl).symm.trans hli))
          · exact (Bool.noConfusion ((h1 { on := 5, ground := .phase } (by simp) rfl).symm.trans hli))
          · exact (Bool.noConfusion ((h1 { on := 6, ground := .phase } (by simp) rfl).symm.trans hli))
          · exact (Bool.noConfusion ((h1 { on := 7, ground := .phase } (by simp) rfl).symm.trans hli))
          · exact (Bool.noConfusion ((h1 { on := 8, ground := .phase } (by simp) rfl).symm.trans hli))
          · exact (Bool.noConfusion ((h1 { on := 9, ground := .phase } (by simp) rfl).symm.trans hli))
          · exact (Bool.noConfusion ((h1 { on := 10, ground := .phase } (by simp) rfl).symm.trans hli))
          · exact h.symm.trans hli
      obtain ⟨hBW, hgo⟩ := hG n11
      have low : ∀ k, k = 5 ∨ k = 8 → bs.getD k false = false → ∀ j, bs.getD j false = true → j < 9 := by
        intro k hk hkf j hj
        have h9 : bs.getD 9 false ≠ true := fun h9 => by
          rcases hk with rfl | rfl
          · exact Bool.noConfusion ((hc9 h9 { on := 5, ground := .data } (by simp) rfl).symm.trans hkf)
          · exact Bool.noConfusion ((hc9 h9 { on := 8, ground := .data } (by simp) rfl).symm.trans hkf)
        have h10 : bs.getD 10 false ≠ true := fun h10 => h9 (hc10 h10 { on := 9, ground := .data } (by simp) rfl)
        rcases Nat.lt_or_ge j 12 with h12 | h12
        · rcases (by omega : j < 9 ∨ j = 9 ∨ j = 10 ∨ j = 11) with h | rfl | rfl | rfl
          · exact h
          · exact absurd hj h9
          · exact absurd hj h10
          · rw [n11] at hj; cases hj
        · simp [Array.getD, show ¬ j < bs.size by omega] at hj
      clear hc11 hc9 hc10 hF hG hcl
      rcases (by omega : i = 0 ∨ i = 1 ∨ i = 2 ∨ i = 3 ∨ i = 4 ∨ i = 5 ∨ i = 6 ∨ i = 7 ∨ i = 8 ∨ i = 9 ∨ i = 10 ∨ i = 11) with rfl | rfl | rfl | rfl | rfl | rfl | rfl | rfl | rfl | rfl | rfl | rfl
      · obtain rfl := Option.some.inj ho
        have hcw := (hBW.cell (p := ⟨w.heap.size, 0, none⟩) hv.lt).trans hc
        refine wpOpIn_step rfl (fun K' hK' => ?_)
        go_simp
        exact hK' _ _ (InvE.put hs' 0 (by decide) n11 f (.slice av l0.length cv) rfl hBW rfl hgo)
      · obtain rfl := Option.some.inj ho
        refine wpOpIn_step rfl (fun K' hK' => ?_)
        go_simp
        exact hK' _ _ (InvE.put hs' 1 (by decide) n11 f (.slice ax lx.length cx) rfl hBW rfl hgo)
      · obtain rfl := Option.some.inj ho
        have e1 : f 1 = .slice ax lx.length cx := hgo 1 (hed { on := 1, ground := .data } (by simp) rfl)
        refine wpOpIn_step rfl (fun K' hK' => ?_)
        go_simp
        exact hK' _ _ (InvE.put hs' 2 (by decide) n11 f (.int .i64 lx.length) (by simp [e1]) hBW rfl hgo)
      · obtain rfl := Option.some.inj ho
        have e2 : f 2 = .int .i64 lx.length := hgo 2 (hed { on := 2, ground := .data } (by simp) rfl)
        refine wpOpIn_step rfl (fun K' hK' => ?_)
        go_simp
        refine ⟨trivial, (hA2 w' (hTW.below hBW (by have := hTW.2; omega))).mono ?_⟩
        rintro e w2 ⟨a1, c1, rfl, hO1, hB1⟩
        go_simp
        exact hK' _ _ (InvE.put hs' 3 (by decide) n11 f (.slice a1 hx.length c1) (by simp [e2]) (hBW.trans (hB1.mono hBW.size)) ⟨a1, c1, rfl, BytesAt.of_own hO1⟩ (fun j hj => (hgo j hj).below hB1))
      · obtain rfl := Option.some.inj ho
        refine wpOpIn_step rfl (fun K' hK' => ?_)
        go_simp
        exact hK' _ _ (InvE.put hs' 4 (by decide) n11 f (.slice (some ⟨w'.heap.size, 0, none⟩) 2 2) rfl (hBW.alloc hBW.size _) ⟨w'.heap.size, _, rfl, hBW.size, heap_alloc_new w' _⟩ (fun j hj => (hgo j hj).below ((Below.refl _ _).alloc (Nat.le_refl _) _)))
      · obtain rfl := Option.some.inj ho
        obtain ⟨b, fr, e4, hbb, hcell⟩ : Lit W.heap.size w' (f 4) := hgo 4 (hed { on := 4, ground := .data } (by simp) rfl)
        have hr : (convert 23 23 (.slice (some ⟨b, 0, none⟩) 2 2)).run Tryz.prog w' = .ok (.slice (some ⟨b, 0, none⟩) 2 2) (w'.freeze ⟨b, 2, none⟩ 1) := run_mark w' b 2 2 _ fr hcell
        have hM := marked_freeze w' b 2
        generalize w'.freeze ⟨b, 2, none⟩ 1 = w2 at hr hM
        refine wpOpIn_step rfl (fun K' hK' => ?_)
        go_simp
        exact hK' _ _ (InvE.put hs' 5 (by decide) n11 f (.slice (some ⟨b, 0, none⟩) 2 2) (by simp [e4]) (hBW.trans (hM.below hbb)) (hM.lit ⟨b, fr, rfl, hbb, hcell⟩) (fun j hj => (hgo j hj).marked (low 5 (.inl rfl) hli j hj) hM _ _ _ hcell))
      · obtain rfl := Option.some.inj ho
        refine wpOpIn_step rfl (fun K' hK' => ?_)
        go_simp
        exact hK' _ _ (InvE.put hs' 6 (by decide) n11 f (.slice ax lx.length cx) rfl hBW rfl hgo)
      · obtain rfl := Option.some.inj ho
        refine wpOpIn_step rfl (fun K' hK' => ?_)
        go_simp
        exact hK' _ _ (InvE.put hs' 7 (by decide) n11 f (.slice (some ⟨w'.heap.size, 0, none⟩) 2 2) rfl (hBW.alloc hBW.size _) ⟨w'.heap.size, _, rfl, hBW.size, heap_alloc_new w' _⟩ (fun j hj => (hgo j hj).below ((Below.refl _ _).alloc (Nat.le_refl _) _)))
      · obtain rfl := Option.some.inj ho
        obtain ⟨b, fr, e4, hbb, hcell⟩ : Lit W.heap.size w' (f 7) := hgo 7 (hed { on := 7, ground := .data } (by simp) rfl)
        have hr : (convert 23 23 (.slice (some ⟨b, 0, none⟩) 2 2)).run Tryz.prog w' = .ok (.slice (some ⟨b, 0, none⟩) 2 2) (w'.freeze ⟨b, 2, none⟩ 1) := run_mark w' b 2 2 _ fr hcell
        have hM := marked_freeze w' b 2
        generalize w'.freeze ⟨b, 2, none⟩ 1 = w2 at hr hM
        refine wpOpIn_step rfl (fun K' hK' => ?_)
        go_simp
        exact hK' _ _ (InvE.put hs' 8 (by decide) n11 f (.slice (some ⟨b, 0, none⟩) 2 2) (by simp [e4]) (hBW.trans (hM.below hbb)) (hM.lit ⟨b, fr, rfl, hbb, hcell⟩) (fun j hj => (hgo j hj).marked (low 8 (.inr rfl) hli j hj) hM _ _ _ hcell))
      · obtain rfl := Option.some.inj ho
        have e0 : f 0 = .slice av l0.length cv := hgo 0 (hed { on := 0, ground := .data } (by simp) rfl)
        obtain ⟨a3, c3, e3, h3⟩ : ∃ a c, f 3 = .slice a hx.length c ∧ BytesAt w' (f 3) hx := hgo 3 (hed { on := 3, ground := .data } (by simp) rfl)
        have g5 : Lit W.heap.size w' (f 5) := hgo 5 (hed { on := 5, ground := .data } (by simp) rfl)
        have e6 : f 6 = .slice ax lx.length cx := hgo 6 (hed { on := 6, ground := .data } (by simp) rfl)
        have g8 : Lit W.heap.size w' (f 8) := hgo 8 (hed { on := 8, ground := .data } (by simp) rfl)
        have h5 := g5.at
        have h8 := g8.at
        obtain ⟨b5, fr5, e5, _, _⟩ := g5
        obtain ⟨b8, fr8, e8, _, _⟩ := g8
        rw [e3] at h3
        rw [e5] at h5
        rw [e8] at h8
        have hR := RowsAt.new w' #[.slice av l0.length cv, .slice a3 hx.length c3, .slice (some ⟨b5, 0, none⟩) 2 2, .slice ax lx.length cx, .slice (some ⟨b8, 0, none⟩) 2 2] 23 [l0, hx, [13, 10], lx, [13, 10]] rfl (by show 5 ≤ _; decide) (fun i hi => by
          match i, hi with
          | 0, _ => exact ⟨_, rfl, hLAt.below hBW⟩
          | 1, _ => exact ⟨_, rfl, h3⟩
          | 2, _ => exact ⟨_, rfl, h5⟩
          | 3, _ => exact ⟨_, rfl, HX3.out.below hBW⟩
          | 4, _ => exact ⟨_, rfl, h8⟩)
        clear h3 h5 h8
        refine wpOpIn_step rfl (fun K' hK' => ?_)
        go_simp
        exact hK' _ _ (InvE.put hs' 9 (by decide) n11 f (.slice (some ⟨w'.heap.size, 0, none⟩) 5 5) (by simp [e0, e3, e5, e6, e8]) (hBW.alloc hBW.size _) ⟨_, _, rfl, hR⟩ (fun j hj => (hgo j hj).below ((Below.refl _ _).alloc (Nat.le_refl _) _)))
      · obtain rfl := Option.some.inj ho
        obtain ⟨b9, vs, e9, hR⟩ : ∃ b vs, f 9 = .slice (some ⟨b, 0, none⟩) 5 5 ∧ RowsAt w' (f 9) vs [l0, hx, [13, 10], lx, [13, 10]] := hgo 9 (hed { on := 9, ground := .data } (by simp) rfl)
        rw [e9] at hR
        refine wpOpIn_step rfl (fun K' hK' => ?_)
        go_simp
        refine ⟨trivial, (hCC w' _ vs hR).mono ?_⟩
        rintro e w2 ⟨a1, c1, rfl, hO1, hB1⟩
        go_simp
        exact hK' _ _ (InvE.put hs' 10 (by decide) n11 f (.slice a1 (l0 ++ (hx ++ [13, 10] ++ lx ++ [13, 10])).length c1) (by simp [e9]) (hBW.trans (hB1.mono hBW.size)) ⟨a1, c1, rfl, hO1.mono hBW.size⟩ (fun j hj => (hgo j hj).below hB1))
      · obtain rfl := Option.some.inj ho
        have hg10 := hgo 10 (hed { on := 10, ground := .data } (by simp) rfl)
        unfold Good at hg10
        obtain ⟨a2, c2, e10, hO⟩ := hg10
        rw [e10] at hO
        obtain ⟨N, hN⟩ : ∃ N, (l0 ++ (hx ++ [13, 10] ++ lx ++ [13, 10])).length = N := ⟨_, rfl⟩
        rw [hN] at e10
        have HN := Lib.hid hN
        clear hN
        have hv2 : Boxed w' w.heap.size 23 (.slice av l0.length cv) := (hBW.block _ hv.lt).trans hv
        have hc2 := hv2.cell
        have hf2 := hv2.frozen
        refine wpOpIn_step rfl (fun K' hK' => ?_)
        go_simp
        obtain rfl := HN.out
        have hbk : KeepsOthers W w' := ⟨hBW.size, fun k o hk _ => (hBW.block k (Array.getElem?_eq_some_iff.1 hk).1).trans hk⟩
        have hbs := hv.lt
        have hne : some w.heap.size ≠ (Value.slice a2 (l0 ++ (hx ++ [13, 10] ++ lx ++ [13, 10])).length c2).ownBlock := by
          have := hv2.not_row (by decide) hO
          exact this
        refine hK' _ _ ⟨f, by simp [e10], fun _ => ⟨a2, c2, hv2.set _, ?_, hbk.trans (KeepsOthers.setCell _ _ _), (show Below w.heap.size W w' from hBW.mono (Nat.le_of_lt hbs)).setCell (p := ⟨w.heap.size, 0, none⟩) (Nat.le_refl _) _, ⟨?_, ?_⟩⟩, fun h => ?_⟩
        · exact (hO.mono (by omega)).kept (grownBy_setCell' w' w.heap.size _) (.inr hne.symm)
        · rw [World.cell?_setCell_other _ _ _ _ (by simp)]; exact hBW.cell (p := ⟨w.heap.size + 1, 0, none⟩) (show w.heap.size + 1 < W.heap.size by omega)
        · rw [World.cell?_setCell_other _ _ _ _ (by simp)]; exact hBW.cell (p := ⟨w.heap.size + 1 + 1, 0, none⟩) (show w.heap.size + 1 + 1 < W.heap.size by omega)
        · rw [getD_put (by omega)] at h; simp at h
  case done =>
    rintro D ys W hD rfl ⟨⟨v, hv, hrow, _⟩, hBx⟩ hK
    have hB := hB0.trans hBx
    have hmap : (upto fp (pieces l.length sz)).map (fun x : Pc w => x.1.2) = upto (cut l sz) (pieces l.length sz) := by
      unfold upto
      rw [List.map_map]
      exact List.map_congr_left fun k hk => hfp2 k (List.mem_range.1 hk)
    rw [hmap] at hrow
    have hlen := encAll_len (upto (cut l sz) (pieces l.length sz)) (fun q hq => by
      obtain ⟨k, _, rfl⟩ := List.mem_map.1 hq
      rw [cut_len]; omega)
    have hul : (upto (cut l sz) (pieces l.length sz)).length = pieces l.length sz := by simp [upto]
    rw [hul] at hlen
    clear hul hmap
    obtain ⟨out, hout⟩ : ∃ o, encAll (upto (cut l sz) (pieces l.length sz)) = o := ⟨_, rfl⟩
    rw [hout] at hrow hlen
    have HOUT := Lib.hid hout
    clear hout
    have hc := hv.cell
    gi_wp2_with (gi_at_builtin; refine wpListIn_append_str _ rfl _ _ rfl w.heap.size _ _ rfl hrow _ rfl (by show out.length + 5 ≤ _; omega) (Nat.le_of_lt hv.lt) ?_; intro v2 W2 hO2 hG2)
    have hKr : some D ≠ v.ownBlock := by
      intro e'
      rcases hrow.2 with ⟨rfl, _⟩ | ⟨g, cap', cur, rfl, _, hgb, _⟩
      · simp [Value.ownBlock] at e'
      · obtain rfl : D = g := by simpa [Value.ownBlock] using e'
        rw [hgb] at hK; cases hK
    have hK2 : W2.heap[D]? = some (.deferred (some [])) := (hG2.block D (Array.getElem?_eq_some_iff.1 hK).1 hKr).trans hK
    have hO3 : W2.ownsRow w.heap.size 5 1 v2 (out ++ tail5).length (BytesL.valB (out ++ tail5)) := by
      rw [show (out ++ tail5).length = out.length + 5 by simp [tail5], show BytesL.valB (out ++ tail5) = BytesL.valB out ++ Lib.strCells ⟨#[48, 13, 10, 13, 10]⟩ by simp [BytesL.valB, tail5, Lib.strCells]]
      exact hO2
    have hBW2 : Below w.heap.size w W2 := hB.trans ((Below.refl _ W).grown hG2 (Nat.le_of_lt hv.lt) (fun k hk => (World.ownsRow.lt hrow k hk).1))
    refine ⟨by simp, .inl ⟨_, _, rfl, run_takeDeferred hK2, ?_⟩⟩
    have hO4 : BytesL.Own (W2.putObj D (.deferred none)) w.heap.size v2 (out ++ tail5) := ownsRow_putObj hO3 _ hK2 rfl
    refine ⟨_, results_tmp2 rfl _ _ _, v2, rfl, by rw [HOUT.out]; exact hO4, hBW2.trans (belowK_b (w := w) (Nat.le_refl _) W2 D _ _ (by omega) hK2 rfl rfl)⟩
  case stop =>
    rintro D c pre W _ _ h _
    exact h.elim
set_option maxHeartbeats 1000000 in
theorem encode_range (v : Value) (size : Int) (w : World) (h : size < 1 ∨ 8000 < size) : Calls Tryz.prog 26 #[v, .int .i64 size] w fun e w' => e = .returned (.tuple #[.slice none 0 0, .iface 56 (.int .i64 1)]) ∧ w = w' := by
  by_cases h1 : size < 1
  · go_enter Tryz.func26, Tryz.ntmps26
    go_wp2
    go_ret2
    exact ⟨rfl, rfl⟩
  · have h2 : 8000 < size := by omega
    go_enter Tryz.func26, Tryz.ntmps26
    go_wp2
    go_ret2
    exact ⟨rfl, rfl⟩
set_option maxHeartbeats 1000000 in
theorem encode_full (a : Option Addr) (n cap : Nat) (size : Int) (w : World) (h1 : ¬ size < 1) (h2 : ¬ 8000 < size) (h : 8000 < n) : Calls Tryz.prog 26 #[.slice a n cap, .int .i64 size] w fun e w' => e = .returned (.tuple #[.slice none 0 0, .iface 56 (.int .i64 4)]) ∧ w = w' := by
  have h3 : (8000 : Int) < (n : Int) := by omega
  go_enter Tryz.func26, Tryz.ntmps26
  go_wp2
  go_ret2
  exact ⟨rfl, rfl⟩
end Go.Proofs.YtkohbbnnjakhjaaGreatDoor.ChunkC
