/-
  slices.Grow and slices.Concat of fields, over this seat's translation.
  Conditions: the lengths' sum.
-/
import Derived.Test.YtegngpingfjedaaGreatDoorFieldRows
import Derived.Test.YtegngpingfjedaaGreatDoorArgs
import Derived.WalkSpells
import Derived.WalkLawsBesides
import Derived.Lib.Hide
import Derived.Lib.AppendZerosOnto
import Derived.Lib.AppendZeros
import Derived.Lib.SliceRun
namespace Go.Proofs.YtegngpingfjedaaGreatDoor.FieldCat
open Go.RowKit RowsK FieldRows
set_option linter.unusedSimpArgs false
set_option linter.unusedVariables false

abbrev OwnF (w : World) (b : Nat) (v : Value) (l : List Fld) : Prop := Own encF w b 34 v l
abbrev AtF (w : World) (v : Value) (l : List Fld) : Prop := At encF w v l
def zF : Value := .agg #[.string ⟨#[]⟩, .string ⟨#[]⟩]
theorem infoF : (Tryz.prog.info? 34).map (fun i => (i.zero, i.size, i.bytes)) = some (some zF, 2, 32) := by kernel_rfl
set_option maxHeartbeats 1000000 in
theorem grow_nil0 (w : World) : Calls Tryz.prog 118 #[.slice none 0 0, .int .i64 0] w fun e w' => e = .returned (.slice none 0 0) ∧ w = w' := by
  go_enter Tryz.func118, Tryz.ntmps118
  go_wp2
  go_ret
  exact ⟨rfl, rfl⟩
set_option maxRecDepth 100000 in
set_option maxHeartbeats 2000000 in
theorem grow_nil (n : Nat) (hn : n ≤ 1000000000) (h0 : 0 < n) (w : World) :
    Calls Tryz.prog 118 #[.slice none 0 0, .int .i64 n] w fun e w' => ∃ v, e = .returned v ∧ OwnF w' w.heap.size v [] ∧ Below w.heap.size w w' := by
  obtain ⟨i0, hi, hz0, hz1, hz2⟩ := info_parts infoF
  have hold : (Builtin.firstCells i0.size 0 (.slice none 0 0)).run Tryz.prog w.drew = .ok ([] : List Value).toArray w.drew := run_firstCells_none w.drew i0.size 0 0 0
  have hrz : ∀ ty, (Builtin.append_ #[35, 3] ty #[.slice none 0 0, .int .i64 n]).run Tryz.prog w =
      .ok (.slice (some ⟨w.heap.size, 0, none⟩) n (grownCap w n 0 34)) (w.drew.alloc (.cells (([] : List Value).toArray ++ Builtin.zeroCells zF.cells n ++ Builtin.zeroCells zF.cells (grownCap w n 0 34 - n)) 34)) := fun ty => by
    have h := Lib.run_append_grow_zeros (P := Tryz.prog) w 35 3 ty 34 i0 zF .i64 .i64 Tryz.underlying35 Tryz.underlying3 hi hz0 none 0 0 [] hold n h0 (by rw [hz1]; decide) (by omega) (by omega) (by rw [hz2]; omega)
      (by have := growslice_fits (bytes := i0.bytes) (need := 0 + n) (old := 0) (by omega) (by rw [hz2]; omega); exact this)
    simpa using h
  have hGn : n ≤ grownCap w n 0 34 := grownCap_ge w _ _ _
  have hG63 : grownCap w n 0 34 ≤ maxLen := grownCap_le_maxLen w n 0 34 (by unfold maxLen; omega)
  clear hold
  generalize hG : grownCap w n 0 34 = G at *
  clear hG
  have HG := Lib.hid hG63
  unfold maxLen at hG63
  obtain ⟨C, hC, hrz⟩ : ∃ C : Array Value, C.size = G * 2 ∧ ∀ ty, (Builtin.append_ #[35, 3] ty #[.slice none 0 0, .int .i64 n]).run Tryz.prog w = .ok (.slice (some ⟨w.heap.size, 0, none⟩) n G) (w.drew.alloc (.cells C 34)) :=
    ⟨_, by simp only [Array.size_append, size_zeroCells, List.size_toArray, List.length_nil]; show 0 + n * 2 + (G - n) * 2 = G * 2; omega, hrz⟩
  have HC := Lib.hid hC
  clear hC
  go_enter Tryz.func118, Tryz.ntmps118
  go_wp2_with (at_builtin; refine Lib.wpList_append_run _ rfl _ _ _ _ rfl _ _ rfl rfl _ _ (hrz _) ?_)
  go_ret
  exact ⟨_, rfl, ⟨rfl, .inr ⟨w.heap.size, G, C, rfl, Nat.le_refl _, heap_alloc_new w _, Nat.zero_le _, HG.out, by rw [HC.out]; rfl, by simp [Enc.flat]⟩⟩, ((Below.refl _ _).alloc (Nat.le_refl _) _).drew⟩
theorem grow_any (n : Nat) (hn : n ≤ 1000000000) (w : World) :
    Calls Tryz.prog 118 #[.slice none 0 0, .int .i64 n] w fun e w' => ∃ v, e = .returned v ∧ OwnF w' w.heap.size v [] ∧ Below w.heap.size w w' := by
  rcases Nat.eq_zero_or_pos n with h | h
  · subst h
    exact (grow_nil0 w).mono fun e w' hh => ⟨_, hh.1, by rw [← hh.2]; exact Own.nil _ _ _ _, by rw [← hh.2]; exact Below.refl _ _⟩
  · exact grow_nil n hn h w
def sumLen (ls : List (List Fld)) : Nat := (ls.map List.length).sum
theorem sumLen_snoc (ls : List (List Fld)) (k : Nat) (h : k < ls.length) : sumLen (ls.take (k + 1)) = sumLen (ls.take k) + (ls.getD k []).length := by
  rw [List.take_succ_eq_append_getElem h]; simp only [sumLen, List.map_append, List.sum_append, List.map_cons, List.map_nil, List.sum_cons, List.sum_nil, Nat.add_zero, List.getD_eq_getElem?_getD, List.getElem?_eq_getElem h, Option.getD_some]
theorem flat_snoc (ls : List (List Fld)) (k : Nat) (h : k < ls.length) : (ls.take (k + 1)).flatten = (ls.take k).flatten ++ ls.getD k [] := by
  rw [List.take_succ_eq_append_getElem h]; simp only [List.flatten_append, List.flatten_cons, List.flatten_nil, List.append_nil, List.getD_eq_getElem?_getD, List.getElem?_eq_getElem h, Option.getD_some]
theorem flat_len (ls : List (List Fld)) : ls.flatten.length = sumLen ls := by simp [sumLen, List.length_flatten]
theorem sumLen_take (ls : List (List Fld)) (k : Nat) : sumLen (ls.take k) ≤ sumLen ls := by
  have h : sumLen ls = sumLen (ls.take k) + sumLen (ls.drop k) := by
    have e : sumLen (ls.take k ++ ls.drop k) = sumLen (ls.take k) + sumLen (ls.drop k) := by simp only [sumLen, List.map_append, List.sum_append]
    rwa [List.take_append_drop] at e
  omega
theorem sumLen_at (ls : List (List Fld)) (k : Nat) (h : k < ls.length) : sumLen (ls.take k) + (ls.getD k []).length ≤ sumLen ls := by
  rw [← sumLen_snoc ls k h]; exact sumLen_take ls (k + 1)
/-- v is a [][]byte that reads so. -/
def RowsAt (w : World) (v : Value) (vs : List Value) (ls : List (List Fld)) : Prop :=
  Args.RowAt w v vs ∧ vs.length = ls.length ∧ ∀ i, i < ls.length → ∃ x, vs[i]? = some x ∧ AtF w x (ls.getD i [])
theorem RowsAt.open {w : World} {v : Value} {vs : List Value} {ls : List (List Fld)} (h : RowsAt w v vs ls) : ∃ a cap, v = .slice a ls.length cap ∧ ls.length ≤ cap ∧ cap ≤ 9223372036854775807 ∧
    ∀ i, i < ls.length → ∃ b off x, a = some ⟨b, off, none⟩ ∧ b < w.heap.size ∧ w.cell? ⟨b, off + i, none⟩ = some x ∧ AtF w x (ls.getD i []) := by
  obtain ⟨⟨a, cap, h1, h2, h3, h4, h5⟩, h6, h7⟩ := h
  rw [h6] at h1 h2 h5
  refine ⟨a, cap, h1, h2, h3, fun i hi => ?_⟩
  obtain ⟨b, off, e, hb, hc⟩ := h5 i hi
  obtain ⟨x, hx, hB⟩ := h7 i hi
  exact ⟨b, off, x, e, hb, hc.trans hx, hB⟩
/-- A new block of slices of bytes. -/
theorem RowsAt.new (W : World) (cs : Array Value) (t : TypeId) (ls : List (List Fld)) (hlen : cs.size = ls.length) (hm : cs.size ≤ 9223372036854775807) (h : ∀ i, i < ls.length → ∃ x, cs[i]? = some x ∧ AtF W x (ls.getD i [])) :
    RowsAt (W.alloc (.cells cs t)) (.slice (some ⟨W.heap.size, 0, none⟩) cs.size cs.size) cs.toList ls := by
  refine ⟨⟨some ⟨W.heap.size, 0, none⟩, cs.size, by simp, by simp, hm, by simp, fun i hi => ⟨W.heap.size, 0, rfl, by simp, ?_⟩⟩, by simpa using hlen, fun i hi => ?_⟩
  · rw [Nat.zero_add]; simp
  · obtain ⟨x, hx, hB⟩ := h i hi
    exact ⟨x, by simpa using hx, hB.old ((Below.refl _ _).alloc (Nat.le_refl _) _)⟩
set_option maxRecDepth 100000 in
set_option maxHeartbeats 4000000 in
theorem concat_any (v : Value) (vs : List Value) (ls : List (List Fld)) (w : World) (h : RowsAt w v vs ls) (hsum : sumLen ls ≤ 1000000000) :
    Calls Tryz.prog 77 #[v] w fun e w' => ∃ v', e = .returned v' ∧ OwnF w' w.heap.size v' ls.flatten ∧ Below w.heap.size w w' := by
  obtain ⟨a, cap, rfl, hcap1, hcap2, hel⟩ := h.open
  have HEL := Lib.hid hel
  clear hel h
  generalize hn : ls.length = n at *
  have HN := Lib.hid hn
  clear hn
  have HTk := fun k => sumLen_take ls k
  have HT := Lib.hid HTk
  clear HTk
  go_enter Tryz.func77, Tryz.ntmps77
  go_wp2
  go_loop [3, 11] (fun t i => ∃ k : Nat, k ≤ n ∧ i = .int .i64 k ∧ t = .int .i64 (sumLen (ls.take k) : Nat)) (fun _ i => n - (intOf i).toNat)
  case atStart => exact ⟨0, Nat.zero_le _, rfl, rfl⟩
  case round =>
    obtain ⟨k, hk, rfl, rfl⟩ := hrel
    have hsk := HT.out k
    by_cases hlt : k < n
    · obtain ⟨b, off, x, rfl, hb, hc, hx⟩ := HEL.out k hlt
      obtain ⟨ax, capx, rfl, _, hcx2, hnil, hcx⟩ := id hx
      have HS := Lib.hid (sumLen_snoc ls k (by rw [HN.out]; exact hlt))
      have hat := sumLen_at ls k (by rw [HN.out]; exact hlt)
      clear hx hnil hcx
      generalize (ls.getD k []).length = m at *
      generalize sumLen (ls.take k) = t at *
      go_wp2
      go_round
      case rel => exact ⟨k + 1, by omega, by go_num, by rw [HS.out]; go_num⟩
      case measure => simp [intOf]; omega
    · obtain rfl : k = n := by omega
      have HTL := Lib.hid (List.take_of_length_le (l := ls) (i := k) (by rw [HN.out]; omega))
      rw [HTL.out] at hsk ⊢
      clear HTL
      go_wp2_with fail
      refine (grow_any (sumLen ls) hsum _).mono ?_
      rintro e w1 ⟨v1, rfl, hown, hB⟩
      have HO := Lib.hid hown
      have HB := Lib.hid hB
      clear hown hB hsk
      go_wp2
      go_loopw [6, 27] (fun t i wr => ∃ j : Nat, j ≤ k ∧ i = .int .i64 j ∧ Below w.heap.size w wr ∧ OwnF wr w.heap.size t (ls.take j).flatten) (fun _ i _ => k - (intOf i).toNat)
      case atStart => exact ⟨0, Nat.zero_le _, rfl, HB.out, by simpa using HO.out⟩
      case round =>
        obtain ⟨j, hj, rfl, hBr, hO⟩ := hrel
        have HOj := Lib.hid hO
        have HBj := Lib.hid hBr
        have hszj := hBr.size
        by_cases hlt2 : j < k
        · obtain ⟨b, off, x, rfl, hb, hc, hx⟩ := HEL.out j hlt2
          have hc2 := (hBr.cell (p := ⟨b, off + j, none⟩) hb).trans hc
          have HX := Lib.hid (hx.old hBr)
          have HFL := Lib.hid (flat_snoc ls j (by rw [HN.out]; exact hlt2))
          have hat := sumLen_at ls j (by rw [HN.out]; exact hlt2)
          have hfl := flat_len (ls.take j)
          have hle : (ls.take j).flatten.length + (ls.getD j []).length < 274877906944 := by rw [hfl]; omega
          clear hBr hO hx hc hat hfl
          go_wp2_with (at_builtin; refine wpList_append elemF rfl _ _ rfl w.heap.size _ rfl HOj.out _ _ rfl HX.out hle hszj ?_; intro v2 w2 hown2 hB2 hg2 hat2; clear hg2 hat2)
          go_roundw
          case rel => exact ⟨j + 1, by omega, by go_num, HBj.out.trans hB2, by rw [HFL.out]; exact hown2⟩
          case measure => simp [intOf]; omega
        · obtain rfl : j = k := by omega
          have HTL := Lib.hid (List.take_of_length_le (l := ls) (i := j) (by rw [HN.out]; omega))
          clear hBr hO
          go_wp2
          go_ret
          exact ⟨_, rfl, by rw [← HTL.out]; exact HOj.out, HBj.out⟩
end Go.Proofs.YtegngpingfjedaaGreatDoor.FieldCat
