/-
  slices.Grow, slices.Concat and slices.Clone of bytes over this seat's translation; 'append(dst, src...)' of bytes, src nil, empty or not.
  Conditions: the lengths' sum.
-/
import Derived.Test.YtegngpingfjedaaGreatDoorBytesAt
import Derived.WalkSpells
import Derived.WalkLawsBesides
import Derived.Lib.Hide
import Derived.Maps.AppendAt
import Derived.Lib.AppendZerosOnto
import Derived.Lib.AppendZeros
import Derived.Lib.SliceRun
namespace Go.Proofs.YtegngpingfjedaaGreatDoor.SlicesB
open Go.RowKit BA
set_option linter.unusedSimpArgs false
set_option linter.unusedVariables false

/-- 'append(b, x...)' on a slice of bytes of the call's own. -/
theorem wpList_append_bytes {w : World} {ops : Array Oper} {rest : List Oper} {o : Oper} {a : Act} {Q : Exit → Act → World → Prop} (hgd : o.guard = none) (s x : Operand)
    (ho : o.op = .call { callee := .builtin .append, args := #[s, x], argTypes := #[30, 30] })
    (base : Nat) (v : Value) (l : List Int) (hs : a.eval s = v) (hown : BytesL.Own w base v l) (vx : Value) (y : List Int) (hx : a.eval x = vx) (hy : BytesAt w vx y)
    (hlen : l.length + y.length < 140737488355328) (hbase : base ≤ w.heap.size)
    (h : ∀ v' w', BytesL.Own w' base v' (l ++ y) → Below base w w' → w.grownBy w' v.ownBlock → (v'.ownBlock = v.ownBlock ∨ v'.ownBlock = some w.heap.size) → wpList Tryz.prog ops Q rest (a.put o.dst v') w') : wpList Tryz.prog ops Q (o :: rest) a w := by
  obtain ⟨i0, hi, hz0, hz1, hz2⟩ := info_parts BytesL.infoB
  obtain ⟨ax, cx, rfl, hc1, hc2, hnil, _⟩ := hy.open
  have key : ∃ v' w', (Builtin.append_ #[30, 30] o.type #[v, .slice ax y.length cx]).run Tryz.prog w = .ok v' w' ∧ BytesL.Own w' base v' (l ++ y) ∧ w.grownBy w' v.ownBlock ∧ (v'.ownBlock = v.ownBlock ∨ v'.ownBlock = some w.heap.size) := by
    cases ax with
    | none =>
      obtain rfl := hnil rfl
      have h0 : y = [] := List.eq_nil_of_length_eq_zero (by omega)
      subst h0
      refine ⟨v, w, run_append_owned_none (P := Tryz.prog) w base 30 o.type 5 i0 1 Tryz.underlying30 hi v l.length (BytesL.valB l) hown, by simpa using hown, World.grownBy.refl w _, .inl rfl⟩
    | some ad =>
      obtain ⟨_, hcells⟩ := bytesAt_add hy
      obtain ⟨v', w', hr, h2, h3, _, h5⟩ := run_append_own_at (P := Tryz.prog) w base 30 o.type 5 i0 (.int .u8 0) 1 1 Tryz.underlying30 hi hz0 hz1 hz2 rfl (by decide) v l.length (BytesL.valB l) hown ad y.length cx (BytesL.valB y) (by simp) hcells
        (by intro u hu; obtain ⟨z, _, rfl⟩ := List.mem_map.1 hu; rfl) (by simp only [maxLen]; omega) (by omega) hbase
      exact ⟨v', w', hr, by simpa [BytesL.Own, BytesL.valB] using h2, h3, h5⟩
  obtain ⟨v', w', hr, h2, h3, h4⟩ := key
  refine wpList_plain hgd fun K hK => ?_
  unfold Oper.wp execOp
  simp only [ho, resolve, invoke, builtin, Sem.run_bind, Sem.run_pure, Result.andThen_ok, List.map_toArray, List.map_cons, List.map_nil, hs, hx, hr]
  exact hK _ _ (h v' w' h2 ((Below.refl _ _).grown h3 hbase (fun k hk => (hown.lt k hk).1)) h3 h4)

set_option maxHeartbeats 1000000 in
theorem grow_nil0 (w : World) : Calls Tryz.prog 83 #[.slice none 0 0, .int .i64 0] w fun e w' => e = .returned (.slice none 0 0) ∧ w = w' := by
  go_enter Tryz.func83, Tryz.ntmps83
  go_wp2
  go_ret
  exact ⟨rfl, rfl⟩
set_option maxRecDepth 100000 in
set_option maxHeartbeats 2000000 in
theorem grow_nil (n : Nat) (hn : n ≤ 1099511627776) (h0 : 0 < n) (w : World) :
    Calls Tryz.prog 83 #[.slice none 0 0, .int .i64 n] w fun e w' => ∃ v, e = .returned v ∧ BytesL.Own w' w.heap.size v [] ∧ Below w.heap.size w w' := by
  obtain ⟨i0, hi, hz0, hz1, hz2⟩ := info_parts BytesL.infoB
  have hold : (Builtin.firstCells i0.size 0 (.slice none 0 0)).run Tryz.prog w.drew = .ok ([] : List Value).toArray w.drew := run_firstCells_none w.drew i0.size 0 0 0
  have hrz : ∀ ty, (Builtin.append_ #[30, 3] ty #[.slice none 0 0, .int .i64 n]).run Tryz.prog w =
      .ok (.slice (some ⟨w.heap.size, 0, none⟩) n (grownCap w n 0 5)) (w.drew.alloc (.cells (([] : List Value).toArray ++ Builtin.zeroCells (Value.int .u8 0).cells n ++ Builtin.zeroCells (Value.int .u8 0).cells (grownCap w n 0 5 - n)) 5)) := fun ty => by
    have h := Lib.run_append_grow_zeros (P := Tryz.prog) w 30 3 ty 5 i0 (.int .u8 0) .i64 .i64 Tryz.underlying30 Tryz.underlying3 hi hz0 none 0 0 [] hold n h0 (by rw [hz1]; decide) (by omega) (by omega) (by rw [hz2]; omega)
      (by have := growslice_fits (bytes := i0.bytes) (need := 0 + n) (old := 0) (by omega) (by rw [hz2]; omega); exact this)
    simpa using h
  have hGn : n ≤ grownCap w n 0 5 := grownCap_ge w _ _ _
  have hG63 : grownCap w n 0 5 ≤ maxLen := grownCap_le_maxLen w n 0 5 (by unfold maxLen; omega)
  clear hold
  generalize hG : grownCap w n 0 5 = G at *
  clear hG
  have HG := Lib.hid hG63
  unfold maxLen at hG63
  obtain ⟨C, hC, hrz⟩ : ∃ C : Array Value, C.size = G ∧ ∀ ty, (Builtin.append_ #[30, 3] ty #[.slice none 0 0, .int .i64 n]).run Tryz.prog w = .ok (.slice (some ⟨w.heap.size, 0, none⟩) n G) (w.drew.alloc (.cells C 5)) :=
    ⟨_, by simp [size_zeroCells, Value.cells]; omega, hrz⟩
  have HC := Lib.hid hC
  clear hC
  go_enter Tryz.func83, Tryz.ntmps83
  go_wp2_with (at_builtin; refine Lib.wpList_append_run _ rfl _ _ _ _ rfl _ _ rfl rfl _ _ (hrz _) ?_)
  go_ret
  exact ⟨_, rfl, ⟨rfl, .inr ⟨w.heap.size, G, C, rfl, Nat.le_refl _, heap_alloc_new w _, Nat.zero_le _, HG.out, by rw [HC.out]; omega, by simp [BytesL.valB]⟩⟩, ((Below.refl _ _).alloc (Nat.le_refl _) _).drew⟩
theorem grow_any (n : Nat) (hn : n ≤ 1099511627776) (w : World) :
    Calls Tryz.prog 83 #[.slice none 0 0, .int .i64 n] w fun e w' => ∃ v, e = .returned v ∧ BytesL.Own w' w.heap.size v [] ∧ Below w.heap.size w w' := by
  rcases Nat.eq_zero_or_pos n with h | h
  · subst h
    exact (grow_nil0 w).mono fun e w' hh => ⟨_, hh.1, by rw [← hh.2]; exact BytesL.Own.nil _ _, by rw [← hh.2]; exact Below.refl _ _⟩
  · exact grow_nil n hn h w
def sumLen (ls : List (List Int)) : Nat := (ls.map List.length).sum
theorem sumLen_snoc (ls : List (List Int)) (k : Nat) (h : k < ls.length) : sumLen (ls.take (k + 1)) = sumLen (ls.take k) + (ls.getD k []).length := by
  rw [List.take_succ_eq_append_getElem h]; simp only [sumLen, List.map_append, List.sum_append, List.map_cons, List.map_nil, List.sum_cons, List.sum_nil, Nat.add_zero, List.getD_eq_getElem?_getD, List.getElem?_eq_getElem h, Option.getD_some]
theorem flat_snoc (ls : List (List Int)) (k : Nat) (h : k < ls.length) : (ls.take (k + 1)).flatten = (ls.take k).flatten ++ ls.getD k [] := by
  rw [List.take_succ_eq_append_getElem h]; simp only [List.flatten_append, List.flatten_cons, List.flatten_nil, List.append_nil, List.getD_eq_getElem?_getD, List.getElem?_eq_getElem h, Option.getD_some]
theorem flat_len (ls : List (List Int)) : ls.flatten.length = sumLen ls := by simp [sumLen, List.length_flatten]
theorem sumLen_take (ls : List (List Int)) (k : Nat) : sumLen (ls.take k) ≤ sumLen ls := by
  have h : sumLen ls = sumLen (ls.take k) + sumLen (ls.drop k) := by
    have e : sumLen (ls.take k ++ ls.drop k) = sumLen (ls.take k) + sumLen (ls.drop k) := by simp only [sumLen, List.map_append, List.sum_append]
    rwa [List.take_append_drop] at e
  omega
theorem sumLen_at (ls : List (List Int)) (k : Nat) (h : k < ls.length) : sumLen (ls.take k) + (ls.getD k []).length ≤ sumLen ls := by
  rw [← sumLen_snoc ls k h]; exact sumLen_take ls (k + 1)
/-- v is a [][]byte that reads so. -/
def RowsAt (w : World) (v : Value) (vs : List Value) (ls : List (List Int)) : Prop :=
  Args.RowAt w v vs ∧ vs.length = ls.length ∧ ∀ i, i < ls.length → ∃ x, vs[i]? = some x ∧ BytesAt w x (ls.getD i [])
theorem RowsAt.open {w : World} {v : Value} {vs : List Value} {ls : List (List Int)} (h : RowsAt w v vs ls) : ∃ a cap, v = .slice a ls.length cap ∧ ls.length ≤ cap ∧ cap ≤ 9223372036854775807 ∧
    ∀ i, i < ls.length → ∃ b off x, a = some ⟨b, off, none⟩ ∧ b < w.heap.size ∧ w.cell? ⟨b, off + i, none⟩ = some x ∧ BytesAt w x (ls.getD i []) := by
  obtain ⟨⟨a, cap, h1, h2, h3, h4, h5⟩, h6, h7⟩ := h
  rw [h6] at h1 h2 h5
  refine ⟨a, cap, h1, h2, h3, fun i hi => ?_⟩
  obtain ⟨b, off, e, hb, hc⟩ := h5 i hi
  obtain ⟨x, hx, hB⟩ := h7 i hi
  exact ⟨b, off, x, e, hb, hc.trans hx, hB⟩
/-- A new block of slices of bytes. -/
theorem RowsAt.new (W : World) (cs : Array Value) (t : TypeId) (ls : List (List Int)) (hlen : cs.size = ls.length) (hm : cs.size ≤ 9223372036854775807) (h : ∀ i, i < ls.length → ∃ x, cs[i]? = some x ∧ BytesAt W x (ls.getD i [])) :
    RowsAt (W.alloc (.cells cs t)) (.slice (some ⟨W.heap.size, 0, none⟩) cs.size cs.size) cs.toList ls := by
  refine ⟨⟨some ⟨W.heap.size, 0, none⟩, cs.size, by simp, by simp, hm, by simp, fun i hi => ⟨W.heap.size, 0, rfl, by simp, ?_⟩⟩, by simpa using hlen, fun i hi => ?_⟩
  · rw [Nat.zero_add]; simp
  · obtain ⟨x, hx, hB⟩ := h i hi
    exact ⟨x, by simpa using hx, hB.below ((Below.refl _ _).alloc (Nat.le_refl _) _)⟩
set_option maxRecDepth 100000 in
set_option maxHeartbeats 4000000 in
theorem concat_any (v : Value) (vs : List Value) (ls : List (List Int)) (w : World) (h : RowsAt w v vs ls) (hsum : sumLen ls ≤ 1099511627776) :
    Calls Tryz.prog 44 #[v] w fun e w' => ∃ v', e = .returned v' ∧ BytesL.Own w' w.heap.size v' ls.flatten ∧ Below w.heap.size w w' := by
  obtain ⟨a, cap, rfl, hcap1, hcap2, hel⟩ := h.open
  have HEL := Lib.hid hel
  clear hel h
  generalize hn : ls.length = n at *
  have HN := Lib.hid hn
  clear hn
  have HTk := fun k => sumLen_take ls k
  have HT := Lib.hid HTk
  clear HTk
  go_enter Tryz.func44, Tryz.ntmps44
  go_wp2
  go_loop [3, 11] (fun t i => ∃ k : Nat, k ≤ n ∧ i = .int .i64 k ∧ t = .int .i64 (sumLen (ls.take k) : Nat)) (fun _ i => n - (intOf i).toNat)
  case atStart => exact ⟨0, Nat.zero_le _, rfl, rfl⟩
  case round =>
    obtain ⟨k, hk, rfl, rfl⟩ := hrel
    have hsk := HT.out k
    by_cases hlt : k < n
    · obtain ⟨b, off, x, rfl, hb, hc, hx⟩ := HEL.out k hlt
      obtain ⟨ax, capx, rfl, _, hcx2, hnil, hcx⟩ := hx.open
      have HS := Lib.hid (sumLen_snoc ls k (by rw [HN.out]; exact hlt))
      have hat := sumLen_at ls k (by rw [HN.out]; exact hlt)
      clear hx hnil hcx
      generalize (ls.getD k []).length = m at *
      generalize sumLen (ls.take k) = t at *
      go_wp2
      go_round
      case rel => exact ⟨k + 1, by omega, by go_num, by rw [HS.out]; go_num⟩
      case measure => simp [intOf]; omega
    · obtain rfl : k = n := by omega
      have HTL := Lib.hid (List.take_of_length_le (l := ls) (i := k) (by rw [HN.out]; omega))
      rw [HTL.out] at hsk ⊢
      clear HTL
      go_wp2_with fail
      refine (grow_any (sumLen ls) hsum _).mono ?_
      rintro e w1 ⟨v1, rfl, hown, hB⟩
      have HO := Lib.hid hown
      have HB := Lib.hid hB
      clear hown hB hsk
      go_wp2
      go_loopw [6, 27] (fun t i wr => ∃ j : Nat, j ≤ k ∧ i = .int .i64 j ∧ Below w.heap.size w wr ∧ BytesL.Own wr w.heap.size t (ls.take j).flatten) (fun _ i _ => k - (intOf i).toNat)
      case atStart => exact ⟨0, Nat.zero_le _, rfl, HB.out, by simpa using HO.out⟩
      case round =>
        obtain ⟨j, hj, rfl, hBr, hO⟩ := hrel
        have HOj := Lib.hid hO
        have HBj := Lib.hid hBr
        have hszj := hBr.size
        by_cases hlt2 : j < k
        · obtain ⟨b, off, x, rfl, hb, hc, hx⟩ := HEL.out j hlt2
          have hc2 := (hBr.cell (p := ⟨b, off + j, none⟩) hb).trans hc
          have HX := Lib.hid (hx.below hBr)
          have HFL := Lib.hid (flat_snoc ls j (by rw [HN.out]; exact hlt2))
          have hat := sumLen_at ls j (by rw [HN.out]; exact hlt2)
          have hfl := flat_len (ls.take j)
          have hle : (ls.take j).flatten.length + (ls.getD j []).length < 140737488355328 := by rw [hfl]; omega
          clear hBr hO hx hc hat hfl
          go_wp2_with (at_builtin; refine wpList_append_bytes rfl _ _ rfl w.heap.size _ _ rfl HOj.out _ _ rfl HX.out hle hszj ?_; intro v2 w2 hown2 hB2 hg2 hat2; clear hg2 hat2)
          go_roundw
          case rel => exact ⟨j + 1, by omega, by go_num, HBj.out.trans hB2, by rw [HFL.out]; exact hown2⟩
          case measure => simp [intOf]; omega
        · obtain rfl : j = k := by omega
          have HTL := Lib.hid (List.take_of_length_le (l := ls) (i := j) (by rw [HN.out]; omega))
          clear hBr hO
          go_wp2
          go_ret
          exact ⟨_, rfl, by rw [← HTL.out]; exact HOj.out, HBj.out⟩
theorem clone_any (v : Value) (l : List Int) (w : World) (h : BytesAt w v l) (hl : l.length ≤ 140737488355327) :
    Calls Tryz.prog 45 #[v] w fun e w' => ∃ v', e = .returned v' ∧ BytesL.Own w' w.heap.size v' l ∧ Below w.heap.size w w' := by
  obtain ⟨a, cap, rfl, hc1, hc2, hnil, _⟩ := h.open
  have H := Lib.hid h
  clear h
  have hq := fun (w : World) (a : Option Addr) (n c : Nat) => Lib.run_eql_slice_nil (P := Tryz.prog) w 30 5 a n c 0 0 Tryz.underlying30
  cases a with
  | none =>
    obtain rfl := hnil rfl
    have h0 : l = [] := List.eq_nil_of_length_eq_zero (by omega)
    subst h0
    clear hnil
    go_enter Tryz.func45, Tryz.ntmps45
    go_wp2
    go_ret
    exact ⟨_, rfl, BytesL.Own.nil _ _, Below.refl _ _⟩
  | some x =>
    clear hnil
    have HL := Lib.hid hl
    generalize hn : l.length = n at *
    have HN := Lib.hid hn
    clear hn
    go_enter Tryz.func45, Tryz.ntmps45
    go_wp2_with (at_builtin; refine wpList_append_bytes rfl _ _ rfl w.heap.size _ [] rfl (World.ownsRow_lit w #[] 0 (Nat.le_refl _) (by decide) rfl) _ l rfl (H.out.below ((Below.refl _ _).alloc (Nat.le_refl _) _)) (by rw [HN.out]; simp; omega) (by simp) ?_; intro v2 w2 hown2 hB2 hg2 hat2; clear hg2 hat2)
    go_ret
    exact ⟨_, rfl, by simpa using hown2, ((Below.refl _ _).alloc (Nat.le_refl _) _).trans hB2⟩
end Go.Proofs.YtegngpingfjedaaGreatDoor.SlicesB
