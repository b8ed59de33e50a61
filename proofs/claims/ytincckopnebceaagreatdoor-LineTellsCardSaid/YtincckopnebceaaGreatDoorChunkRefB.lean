/-
  The reference's Chunks over this seat's translation.
  Conditions: none but where the bytes lie.
-/
import Derived.Test.YtincckopnebceaaGreatDoorChunkRefA
namespace Go.Proofs.YtincckopnebceaaGreatDoor.ChunkR
open Go.RowKit BA SlicesB ChunkD HexC ChunkC ChunkI
set_option linter.unusedVariables false
set_option linter.unusedSimpArgs false

/-- append(b, "..") -/
theorem wpList_append_text {w : World} {ops : Array Oper} {rest : List Oper} {o : Oper} {a : Act} {Q : Exit → Act → World → Prop} (hgd : o.guard = none) (sl x : Operand)
    (ho : o.op = .call { callee := .builtin .append, args := #[sl, x], argTypes := #[23, 9] })
    (base : Nat) (v : Value) (l : List Int) (hs : a.eval sl = v) (hown : BytesL.Own w base v l) (s : ByteArray) (hx : a.eval x = .string s) (y : List Int) (hy : s = strOf y) (hyb : ∀ z ∈ y, 0 ≤ z ∧ z ≤ 255) (hlen : l.length + y.length ≤ 140737488355328) (hbase : base ≤ w.heap.size)
    (h : ∀ v' w', BytesL.Own w' base v' (l ++ y) → Below base w w' → wpList Tryz.prog ops Q rest (a.put o.dst v') w') : wpList Tryz.prog ops Q (o :: rest) a w := by
  subst hy
  obtain ⟨i0, hi, hz0, hz1, hz2⟩ := info_parts BytesL.infoB
  have hsz := strOf_size y
  obtain ⟨v', w', hr, h2, h3⟩ := Lib.run_append_own_string (P := Tryz.prog) w base 23 9 o.type 5 i0 Tryz.underlying23 Tryz.underlying9 hi hz0 hz1 hz2 v l.length (BytesL.valB l) hown (strOf y) (by unfold maxLen; omega) (by omega) hbase
  refine wpList_plain hgd fun K hK => ?_
  unfold Oper.wp execOp
  simp only [ho, resolve, invoke, builtin, Sem.run_bind, Sem.run_pure, Result.andThen_ok, List.map_toArray, List.map_cons, List.map_nil, hs, hx, hr]
  refine hK _ _ (h v' w' ?_ ((Below.refl _ _).grown h3.1 hbase (fun k hk => (hown.lt k hk).1)))
  rw [strOf_cells hyb, hsz] at h2
  simpa [BytesL.Own, BytesL.valB] using h2
theorem chunks_range (v : Value) (size : Int) (w : World) (h : size < 1 ∨ 8000 < size) : Calls Tryz.prog 28 #[v, .int .i64 size] w fun e w' => e = .returned (.tuple #[.slice none 0 0, .int .i64 1]) ∧ w = w' := by
  by_cases h1 : size < 1
  · go_enter Tryz.func28, Tryz.ntmps28
    go_wp2
    go_ret2
    exact ⟨rfl, rfl⟩
  · have h2 : 8000 < size := by omega
    go_enter Tryz.func28, Tryz.ntmps28
    go_wp2
    go_ret2
    exact ⟨rfl, rfl⟩
theorem chunks_full (a : Option Addr) (n cap : Nat) (size : Int) (w : World) (h1 : ¬ size < 1) (h2 : ¬ 8000 < size) (h : 8000 < n) : Calls Tryz.prog 28 #[.slice a n cap, .int .i64 size] w fun e w' => e = .returned (.tuple #[.slice none 0 0, .int .i64 4]) ∧ w = w' := by
  have h3 : (8000 : Int) < (n : Int) := by omega
  go_enter Tryz.func28, Tryz.ntmps28
  go_wp2
  go_ret2
  exact ⟨rfl, rfl⟩
theorem cut_drop (l : List Int) (sz k : Nat) : cut l sz k = (l.drop (k * sz)).take sz := rfl
set_option maxRecDepth 100000 in
set_option maxHeartbeats 4000000 in
theorem chunks_ok (a : Option Addr) (cap sz : Nat) (l : List Int) (w : World) (hb : BytesAt w (.slice a l.length cap) l) (hsz : 1 ≤ sz ∧ sz ≤ 8000) (hl : l.length ≤ 8000) :
    Calls Tryz.prog 28 #[.slice a l.length cap, .int .i64 sz] w fun e w' => ∃ v c, e = .returned (.tuple #[.slice v (encAll (upto (cut l sz) (pieces l.length sz)) ++ tail5).length c, .int .i64 0]) ∧ BytesL.Own w' w.heap.size (.slice v (encAll (upto (cut l sz) (pieces l.length sz)) ++ tail5).length c) (encAll (upto (cut l sz) (pieces l.length sz)) ++ tail5) ∧ Below w.heap.size w w' := by
  obtain ⟨hsz1, hsz2⟩ := hsz
  have h1 : ¬ ((sz : Int) < 1) := by omega
  have h2 : ¬ (8000 : Int) < (sz : Int) := by omega
  have h3 : ¬ (8000 : Int) < ((l.length : Nat) : Int) := by omega
  have hlp : ∀ k, k < pieces l.length sz ↔ k * sz < l.length := fun k => lt_pieces hsz1
  have HLP := Lib.hid hlp
  have HBT := Lib.hid hb
  obtain ⟨pp, hpp⟩ : ∃ pp, pieces l.length sz = pp := ⟨_, rfl⟩
  rw [hpp]
  have HPP := Lib.hid hpp
  have hple : ∀ k, k ≤ pp → (encAll (upto (cut l sz) k)).length ≤ 8000 * 8008 := fun k hk => by
    have h := encAll_len (upto (cut l sz) k) (fun q hq => by
      obtain ⟨j, _, rfl⟩ := List.mem_map.1 hq
      rw [cut_len]; omega)
    rw [upto_length] at h
    have hk2 : k ≤ 8000 := by
      rcases Nat.eq_zero_or_pos pp with h0 | h0
      · omega
      · have h4 := (lt_pieces (len := l.length) (k := pp - 1) hsz1).1 (by omega)
        have h5 : (pp - 1) * 1 ≤ (pp - 1) * sz := Nat.mul_le_mul_left _ hsz1
        omega
    have := Nat.mul_le_mul_right 8008 hk2
    omega
  have HPL := Lib.hid hple
  obtain ⟨n0, hn0⟩ : ∃ n0, l.length = n0 := ⟨_, rfl⟩
  rw [hn0] at h3 hl
  rw [hn0] at hb ⊢
  have HN0 := Lib.hid hn0
  clear hlp hpp hple hn0 hb
  go_enter Tryz.func28, Tryz.ntmps28
  go_wp2
  go_loopw [0, 6] (fun v bv wr => ∃ (k : Nat) (av : Option Addr) (cv : Nat) (ab : Option Addr) (cb : Nat), v = .slice av (n0 - k * sz) cv ∧ bv = .slice ab (encAll (upto (cut l sz) k)).length cb ∧ Below w.heap.size w wr ∧ Hid (BytesAt w (.slice av (n0 - k * sz) cv) (l.drop (k * sz))) ∧ Hid (BytesL.Own wr w.heap.size (.slice ab (encAll (upto (cut l sz) k)).length cb) (encAll (upto (cut l sz) k))) ∧ k ≤ pp) (fun v _ _ => match v with | .slice _ n _ => n | _ => 0)
  case atStart => exact ⟨0, a, cap, none, 0, by simp, rfl, Below.refl _ _, by have h := HBT.out; rw [HN0.out] at h; show BytesAt _ _ _; simpa using h, BytesL.Own.nil _ _, Nat.zero_le _⟩
  case round =>
    obtain ⟨k, av, cv, ab, cb, rfl, rfl, hB, HA, HO, hk⟩ := hrel
    have HB := Lib.hid hB
    have hszj := hB.size
    clear hB
    obtain ⟨r, hr⟩ : ∃ r, n0 - k * sz = r := ⟨_, rfl⟩
    obtain ⟨E, hE⟩ : ∃ E, encAll (upto (cut l sz) k) = E := ⟨_, rfl⟩
    rw [hr] at HA ⊢
    rw [hE] at HO ⊢
    have hEl := HPL.out k hk
    rw [hE] at hEl
    have HE := Lib.hid hE
    have HEl := Lib.hid hEl
    have HR := Lib.hid hr
    clear hE hr hEl
    by_cases hlt : k < pp
    · have q0 : k * sz < n0 := by rw [← HN0.out]; exact (HLP.out k).1 (by rw [HPP.out]; exact hlt)
      have hr0 : 0 < (r : Int) := by have := HR.out; omega
      obtain ⟨n, hn⟩ : ∃ n, min sz r = n := ⟨_, rfl⟩
      have hmm : (r < sz ∧ n = r) ∨ (¬ r < sz ∧ n = sz) := by omega
      have hn8 : n ≤ 8000 := by omega
      have hnr : n ≤ r := by omega
      have hH := fun w1 => hex_any n hn8 w1
      obtain ⟨X, hX⟩ : ∃ X, strOf (hexL n) = X := ⟨_, rfl⟩
      rw [hX] at hH
      have hXs : X.size ≤ 4 := by rw [← hX, strOf_size]; exact hexL_len hn8
      have hXc : X ++ (⟨#[13, 10]⟩ : ByteArray) = strOf (hexL n ++ [13, 10]) := by rw [← hX, ← strOf_app]; rfl
      have HXC := Lib.hid hXc
      have hx9 : ¬ 9223372036854775807 < X.size + 2 := by omega
      obtain ⟨a3, c3, e3, hcc1, hcc2, _, hel⟩ := HA.out.open
      simp only [Value.slice.injEq] at e3
      obtain ⟨rfl, hrl, rfl⟩ := e3
      obtain ⟨bb, off, rfl, hbb, _⟩ := hel 0 (by omega)
      rw [← hrl] at hcc1
      obtain ⟨E1, hE1⟩ : ∃ x, E ++ (hexL n ++ [13, 10]) = x := ⟨_, rfl⟩
      obtain ⟨E2, hE2⟩ : ∃ x, E1 ++ (l.drop (k * sz)).take n = x := ⟨_, rfl⟩
      obtain ⟨E3, hE3⟩ : ∃ x, E2 ++ [(13 : Int)] = x := ⟨_, rfl⟩
      obtain ⟨E4, hE4⟩ : ∃ x, E3 ++ [(10 : Int)] = x := ⟨_, rfl⟩
      have hdl : (l.drop (k * sz)).length = r := hrl.symm
      have hhl := hexL_len hn8
      have hl1 : E1.length = E.length + ((hexL n).length + 2) := by rw [← hE1]; simp
      have hl2 : E2.length = E1.length + n := by rw [← hE2, List.length_append, List.length_take, hdl]; omega
      have hl3 : E3.length = E2.length + 1 := by rw [← hE3]; simp
      have HL0 : Hid (E.length + (hexL n ++ [13, 10]).length ≤ 140737488355328) := (by show _ ≤ _; have := HEl.out; simp; omega)
      have HL1 : Hid (E1.length + ((l.drop (k * sz)).take n).length < 140737488355328) := (by show _ < _; have := HEl.out; rw [List.length_take, hdl]; omega)
      have HL2 : Hid (E2.length < 140737488355328) := (by show _ < _; have := HEl.out; omega)
      have HL3 : Hid (E3.length < 140737488355328) := (by show _ < _; have := HEl.out; omega)
      have HXB : Hid (∀ z ∈ hexL n ++ [13, 10], 0 ≤ z ∧ z ≤ 255) := (by
        intro z hz
        rcases List.mem_append.1 hz with hz | hz
        · exact hexL_bd n z hz
        · simp at hz; omega)
      have hnext : E4 = encAll (upto (cut l sz) (k + 1)) := by
        rw [upto_succ, encAll_snoc, HE.out, ← hE4, ← hE3, ← hE2, ← hE1, cut_drop]
        have e : (l.drop (k * sz)).take sz = (l.drop (k * sz)).take n := by
          rw [← hn]
          rcases Nat.le_total sz r with h | h
          · rw [Nat.min_eq_left h]
          · rw [Nat.min_eq_right h, List.take_of_length_le (by omega), List.take_of_length_le (by omega)]
        have e2 : ((l.drop (k * sz)).take n).length = n := by rw [List.length_take, hdl]; omega
        rw [e]
        simp only [enc1, e2, List.append_assoc, List.cons_append, List.nil_append]
      have HT := Lib.hid (fun w1 (hB1 : Below w.heap.size w w1) => bytesAt_take (HA.out.below hB1) n (by omega))
      have HNX := Lib.hid hnext
      have HE1 := Lib.hid hE1
      have HE2 := Lib.hid hE2
      have HE3 := Lib.hid hE3
      have HE4 := Lib.hid hE4
      have HRL := Lib.hid hrl
      have HH := Lib.hid hH
      have hnx : n0 - (k + 1) * sz = r - n := by have := HR.out; rw [Nat.add_mul]; omega
      have HNN := Lib.hid hnx
      have hdr : r - n = 0 ∨ n = sz := by omega
      have HDR := Lib.hid hdr
      clear hel hX hXs hXc hrl hH q0 hE1 hE2 hE3 hE4 hnext hl1 hl2 hl3 hdl hhl hnx hn hdr
      by_cases hcv : cv = n
      · obtain rfl : r = n := by omega
        subst hcv
        have HN' : Hid (BytesAt w (.slice (some ⟨bb, off, none⟩) (cv - cv) (cv - cv)) (l.drop ((k + 1) * sz))) := (by
          show BytesAt _ _ _
          have e : l.drop ((k + 1) * sz) = [] := List.drop_of_length_le (by have := HNN.out; have := HN0.out; omega)
          rw [e, Nat.sub_self]
          exact ⟨_, 0, rfl, by simp [BytesL.valB], by simp, by simp, by simp [BytesL.valB]⟩)
        rcases hmm with ⟨hc, _⟩ | ⟨hc, rfl⟩
        · have q2 : (cv : Int) < (sz : Int) := by omega
          go_wp2_with (first
            | (go_at_call 55; (with_reducible refine (HH.out _).mono ?_); rintro e w0 ⟨rfl, rfl⟩)
            | (at_builtin; refine wpList_append_text rfl _ _ rfl w.heap.size _ _ rfl HO.out _ rfl (hexL cv ++ [13, 10]) HXC.out HXB.out HL0.out hszj ?_; intro v1 w1 ho1 hB1; have HO1 : Hid (BytesL.Own w1 w.heap.size v1 E1) := (by have h := ho1; rw [HE1.out] at h; exact h); have hBt1 := HB.out.trans hB1; have hsz1 := hBt1.size; clear ho1 hB1; obtain ⟨a1, c1, rfl⟩ := ChunkD.row_form HO1.out)
            | (at_builtin; refine wpList_append_bytes rfl _ _ rfl w.heap.size _ _ rfl HO1.out _ _ rfl (HT.out w1 hBt1) HL1.out hsz1 ?_; intro v2 w2 ho2 hB2 hg2 hat2; clear hg2 hat2; have HO2 : Hid (BytesL.Own w2 w.heap.size v2 E2) := (by have h := ho2; rw [HE2.out] at h; exact h); have hBt2 := hBt1.trans hB2; have hsz2 := hBt2.size; clear ho2 hB2; obtain ⟨a2, c2, rfl⟩ := ChunkD.row_form HO2.out)
            | (at_builtin; refine BytesL.wpList_append_byte rfl _ _ rfl w.heap.size _ _ rfl (World.ownsRow.alloc HO2.out _) w2.heap.size 1 13 rfl (BytesL.cell_new1 _ _ _) HL2.out (BytesL.le_alloc _ hsz2) ?_; intro v3 w3 ho3 hB3 hg3; clear hg3; have HO3 : Hid (BytesL.Own w3 w.heap.size v3 E3) := (by have h := ho3; rw [HE3.out] at h; exact h); have hBt3 := (hBt2.alloc hsz2 _).trans hB3; have hsz3 := hBt3.size; clear ho3 hB3; obtain ⟨a3, c3, rfl⟩ := ChunkD.row_form HO3.out)
            | (at_builtin; refine BytesL.wpList_append_byte rfl _ _ rfl w.heap.size _ _ rfl (World.ownsRow.alloc HO3.out _) w3.heap.size 1 10 rfl (BytesL.cell_new1 _ _ _) HL3.out (BytesL.le_alloc _ hsz3) ?_; intro v4 w4 ho4 hB4 hg4; clear hg4; have HO4 : Hid (BytesL.Own w4 w.heap.size v4 E4) := (by have h := ho4; rw [HE4.out] at h; exact h); have hBt4 := (hBt3.alloc hsz3 _).trans hB4; clear ho4 hB4; obtain ⟨a4, c4, rfl⟩ := ChunkD.row_form HO4.out))
          case roundEnd =>
            have hz := HNN.out
            have hn' := HN'.out
            have h0 := hr0
            rw [Nat.sub_self] at hz hn'
            exact ⟨⟨k + 1, _, _, a4, c4, by rw [hz], by rw [← HNX.out], hBt4, by rw [hz]; exact hn', by rw [← HNX.out]; exact HO4.out, by omega⟩, by show 0 < cv; omega⟩
        · have q2 : ¬ (cv : Int) < (cv : Int) := by omega
          go_wp2_with (first
            | (go_at_call 55; (with_reducible refine (HH.out _).mono ?_); rintro e w0 ⟨rfl, rfl⟩)
            | (at_builtin; refine wpList_append_text rfl _ _ rfl w.heap.size _ _ rfl HO.out _ rfl (hexL cv ++ [13, 10]) HXC.out HXB.out HL0.out hszj ?_; intro v1 w1 ho1 hB1; have HO1 : Hid (BytesL.Own w1 w.heap.size v1 E1) := (by have h := ho1; rw [HE1.out] at h; exact h); have hBt1 := HB.out.trans hB1; have hsz1 := hBt1.size; clear ho1 hB1; obtain ⟨a1, c1, rfl⟩ := ChunkD.row_form HO1.out)
            | (at_builtin; refine wpList_append_bytes rfl _ _ rfl w.heap.size _ _ rfl HO1.out _ _ rfl (HT.out w1 hBt1) HL1.out hsz1 ?_; intro v2 w2 ho2 hB2 hg2 hat2; clear hg2 hat2; have HO2 : Hid (BytesL.Own w2 w.heap.size v2 E2) := (by have h := ho2; rw [HE2.out] at h; exact h); have hBt2 := hBt1.trans hB2; have hsz2 := hBt2.size; clear ho2 hB2; obtain ⟨a2, c2, rfl⟩ := ChunkD.row_form HO2.out)
            | (at_builtin; refine BytesL.wpList_append_byte rfl _ _ rfl w.heap.size _ _ rfl (World.ownsRow.alloc HO2.out _) w2.heap.size 1 13 rfl (BytesL.cell_new1 _ _ _) HL2.out (BytesL.le_alloc _ hsz2) ?_; intro v3 w3 ho3 hB3 hg3; clear hg3; have HO3 : Hid (BytesL.Own w3 w.heap.size v3 E3) := (by have h := ho3; rw [HE3.out] at h; exact h); have hBt3 := (hBt2.alloc hsz2 _).trans hB3; have hsz3 := hBt3.size; clear ho3 hB3; obtain ⟨a3, c3, rfl⟩ := ChunkD.row_form HO3.out)
            | (at_builtin; refine BytesL.wpList_append_byte rfl _ _ rfl w.heap.size _ _ rfl (World.ownsRow.alloc HO3.out _) w3.heap.size 1 10 rfl (BytesL.cell_new1 _ _ _) HL3.out (BytesL.le_alloc _ hsz3) ?_; intro v4 w4 ho4 hB4 hg4; clear hg4; have HO4 : Hid (BytesL.Own w4 w.heap.size v4 E4) := (by have h := ho4; rw [HE4.out] at h; exact h); have hBt4 := (hBt3.alloc hsz3 _).trans hB4; clear ho4 hB4; obtain ⟨a4, c4, rfl⟩ := ChunkD.row_form HO4.out))
          case roundEnd =>
            have hz := HNN.out
            have hn' := HN'.out
            have h0 := hr0
            rw [Nat.sub_self] at hz hn'
            exact ⟨⟨k + 1, _, _, a4, c4, by rw [hz], by rw [← HNX.out], hBt4, by rw [hz]; exact hn', by rw [← HNX.out]; exact HO4.out, by omega⟩, by show 0 < cv; omega⟩
      · have hcw : ¬ cv ≤ n := by omega
        have HN' : Hid (BytesAt w (.slice (some ⟨bb, off + n, none⟩) (r - n) (cv - n)) (l.drop ((k + 1) * sz))) := (by
          show BytesAt _ _ _
          have h := bytesAt_drop HA.out n (by rw [← HRL.out]; exact hnr)
          rw [List.drop_drop] at h
          rcases HDR.out with h0 | h0
          · have e : l.drop ((k + 1) * sz) = [] := List.drop_of_length_le (by have := HNN.out; have := HN0.out; omega)
            have e2 : l.drop (k * sz + n) = [] := List.drop_of_length_le (by have := HRL.out; rw [List.length_drop] at this; omega)
            rw [e]; rw [e2] at h; exact h
          · rw [show (k + 1) * sz = k * sz + n by rw [Nat.add_mul]; omega]; exact h)
        rcases hmm with ⟨hc, rfl⟩ | ⟨hc, rfl⟩
        · have q2 : (n : Int) < (sz : Int) := by omega
          go_wp2_with (first
            | (go_at_call 55; (with_reducible refine (HH.out _).mono ?_); rintro e w0 ⟨rfl, rfl⟩)
            | (at_builtin; refine wpList_append_text rfl _ _ rfl w.heap.size _ _ rfl HO.out _ rfl (hexL n ++ [13, 10]) HXC.out HXB.out HL0.out hszj ?_; intro v1 w1 ho1 hB1; have HO1 : Hid (BytesL.Own w1 w.heap.size v1 E1) := (by have h := ho1; rw [HE1.out] at h; exact h); have hBt1 := HB.out.trans hB1; have hsz1 := hBt1.size; clear ho1 hB1; obtain ⟨a1, c1, rfl⟩ := ChunkD.row_form HO1.out)
            | (at_builtin; refine wpList_append_bytes rfl _ _ rfl w.heap.size _ _ rfl HO1.out _ _ rfl (HT.out w1 hBt1) HL1.out hsz1 ?_; intro v2 w2 ho2 hB2 hg2 hat2; clear hg2 hat2; have HO2 : Hid (BytesL.Own w2 w.heap.size v2 E2) := (by have h := ho2; rw [HE2.out] at h; exact h); have hBt2 := hBt1.trans hB2; have hsz2 := hBt2.size; clear ho2 hB2; obtain ⟨a2, c2, rfl⟩ := ChunkD.row_form HO2.out)
            | (at_builtin; refine BytesL.wpList_append_byte rfl _ _ rfl w.heap.size _ _ rfl (World.ownsRow.alloc HO2.out _) w2.heap.size 1 13 rfl (BytesL.cell_new1 _ _ _) HL2.out (BytesL.le_alloc _ hsz2) ?_; intro v3 w3 ho3 hB3 hg3; clear hg3; have HO3 : Hid (BytesL.Own w3 w.heap.size v3 E3) := (by have h := ho3; rw [HE3.out] at h; exact h); have hBt3 := (hBt2.alloc hsz2 _).trans hB3; have hsz3 := hBt3.size; clear ho3 hB3; obtain ⟨a3, c3, rfl⟩ := ChunkD.row_form HO3.out)
            | (at_builtin; refine BytesL.wpList_append_byte rfl _ _ rfl w.heap.size _ _ rfl (World.ownsRow.alloc HO3.out _) w3.heap.size 1 10 rfl (BytesL.cell_new1 _ _ _) HL3.out (BytesL.le_alloc _ hsz3) ?_; intro v4 w4 ho4 hB4 hg4; clear hg4; have HO4 : Hid (BytesL.Own w4 w.heap.size v4 E4) := (by have h := ho4; rw [HE4.out] at h; exact h); have hBt4 := (hBt3.alloc hsz3 _).trans hB4; clear ho4 hB4; obtain ⟨a4, c4, rfl⟩ := ChunkD.row_form HO4.out))
          case roundEnd =>
            have hz := HNN.out
            have hn' := HN'.out
            have h0 := hr0
            rw [Nat.sub_self] at hz hn'
            exact ⟨⟨k + 1, _, _, a4, c4, by rw [hz], by rw [← HNX.out], hBt4, by rw [hz]; exact hn', by rw [← HNX.out]; exact HO4.out, by omega⟩, by show 0 < n; omega⟩
        · have q2 : ¬ (r : Int) < (n : Int) := by omega
          go_wp2_with (first
            | (go_at_call 55; (with_reducible refine (HH.out _).mono ?_); rintro e w0 ⟨rfl, rfl⟩)
            | (at_builtin; refine wpList_append_text rfl _ _ rfl w.heap.size _ _ rfl HO.out _ rfl (hexL n ++ [13, 10]) HXC.out HXB.out HL0.out hszj ?_; intro v1 w1 ho1 hB1; have HO1 : Hid (BytesL.Own w1 w.heap.size v1 E1) := (by have h := ho1; rw [HE1.out] at h; exact h); have hBt1 := HB.out.trans hB1; have hsz1 := hBt1.size; clear ho1 hB1; obtain ⟨a1, c1, rfl⟩ := ChunkD.row_form HO1.out)
            | (at_builtin; refine wpList_append_bytes rfl _ _ rfl w.heap.size _ _ rfl HO1.out _ _ rfl (HT.out w1 hBt1) HL1.out hsz1 ?_; intro v2 w2 ho2 hB2 hg2 hat2; clear hg2 hat2; have HO2 : Hid (BytesL.Own w2 w.heap.size v2 E2) := (by have h := ho2; rw [HE2.out] at h; exact h); have hBt2 := hBt1.trans hB2; have hsz2 := hBt2.size; clear ho2 hB2; obtain ⟨a2, c2, rfl⟩ := ChunkD.row_form HO2.out)
            | (at_builtin; refine BytesL.wpList_append_byte rfl _ _ rfl w.heap.size _ _ rfl (World.ownsRow.alloc HO2.out _) w2.heap.size 1 13 rfl (BytesL.cell_new1 _ _ _) HL2.out (BytesL.le_alloc _ hsz2) ?_; intro v3 w3 ho3 hB3 hg3; clear hg3; have HO3 : Hid (BytesL.Own w3 w.heap.size v3 E3) := (by have h := ho3; rw [HE3.out] at h; exact h); have hBt3 := (hBt2.alloc hsz2 _).trans hB3; have hsz3 := hBt3.size; clear ho3 hB3; obtain ⟨a3, c3, rfl⟩ := ChunkD.row_form HO3.out)
            | (at_builtin; refine BytesL.wpList_append_byte rfl _ _ rfl w.heap.size _ _ rfl (World.ownsRow.alloc HO3.out _) w3.heap.size 1 10 rfl (BytesL.cell_new1 _ _ _) HL3.out (BytesL.le_alloc _ hsz3) ?_; intro v4 w4 ho4 hB4 hg4; clear hg4; have HO4 : Hid (BytesL.Own w4 w.heap.size v4 E4) := (by have h := ho4; rw [HE4.out] at h; exact h); have hBt4 := (hBt3.alloc hsz3 _).trans hB4; clear ho4 hB4; obtain ⟨a4, c4, rfl⟩ := ChunkD.row_form HO4.out))
          case roundEnd =>
            have hz := HNN.out
            have hn' := HN'.out
            have h0 := hr0
            skip
            exact ⟨⟨k + 1, _, _, a4, c4, by rw [hz], by rw [← HNX.out], hBt4, by rw [hz]; exact hn', by rw [← HNX.out]; exact HO4.out, by omega⟩, by show r - n < r; omega⟩
    · obtain rfl : k = pp := by omega
      have hr0 : r = 0 := by
        have h1 : ¬ k * sz < l.length := fun h => hlt (by have h2 := (HLP.out k).2 h; rw [HPP.out] at h2; exact h2)
        have := HR.out
        rw [HN0.out] at h1
        omega
      subst hr0
      have HTL : Hid ((⟨#[48, 13, 10, 13, 10]⟩ : ByteArray) = strOf tail5) := (by show _ = _; decide +kernel)
      have HTB : Hid (∀ z ∈ tail5, 0 ≤ z ∧ z ≤ 255) := (by intro z hz; simp [tail5] at hz; omega)
      have HTN : Hid (E.length + tail5.length ≤ 140737488355328) := (by show _ ≤ _; have := HEl.out; simp [tail5]; omega)
      go_wp2_with (at_builtin; refine wpList_append_text rfl _ _ rfl w.heap.size _ _ rfl HO.out _ rfl tail5 HTL.out HTB.out HTN.out hszj ?_; intro v1 w1 ho1 hB1; have HO1 := Lib.hid ho1; have hBt1 := HB.out.trans hB1; clear ho1 hB1; obtain ⟨a1, c1, rfl⟩ := ChunkD.row_form HO1.out)
      go_ret2
      exact ⟨a1, c1, by rw [HE.out, List.length_append]; rfl, by rw [HE.out]; exact HO1.out, hBt1⟩
end Go.Proofs.YtincckopnebceaaGreatDoor.ChunkR
