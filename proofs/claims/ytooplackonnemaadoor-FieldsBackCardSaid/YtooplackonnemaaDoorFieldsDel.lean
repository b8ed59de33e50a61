/-
  slices.Clone and slices.DeleteFunc of fields, by hand: what is left is what the test does not take.
  Conditions: the length.
-/
import Derived.Test.YtooplackonnemaaDoorLayCF
import Derived.Test.YtooplackonnemaaDoorFieldRows
import Derived.Test.YtooplackonnemaaDoorRowsMore
import Derived.Lib.Hide
namespace Go.Proofs.YtooplackonnemaaDoor.FieldsC
open Go.RowKit Go.Shelf RowsK RowsM FieldRows
set_option linter.unusedVariables false
set_option linter.unusedSimpArgs false

theorem bstep {w W W' : World} (h : Below w.heap.size w W) (h2 : Below W.heap.size W W') : Below w.heap.size w W' := h.trans (h2.mono h.size)
theorem zeroF (w : World) : (zeroValue 33).run Tryd.prog w = .ok (.agg #[.string ⟨#[]⟩, .string ⟨#[]⟩]) w := by kernel_rfl
/-- 'clear' of what stands behind the first i. -/
theorem run_clear_own {w : World} {base b n c : Nat} {ys : List Fld} (h : Own encF w base 33 (.slice (some ⟨b, 0, none⟩) n c) ys) (hn : n = ys.length) (i : Nat) (hi : i ≤ n) (A : Option Addr) (c' : Nat) (hA : i < n → A = some ⟨b, i * 2, none⟩) :
    ∃ w', (∀ ty, (Builtin.clear_ #[22] ty #[.slice A (n - i) c']).run Tryd.prog w = .ok (.tuple #[]) w') ∧ Own encF w' base 33 (.slice (some ⟨b, 0, none⟩) i c) (ys.take i) ∧ w.grownBy w' (some b) := by
  have hcut := h.cut i (by omega) (by simp)
  rcases Nat.lt_or_ge i n with hlt | hge
  · obtain rfl := hA hlt
    obtain ⟨h1, h2⟩ := h
    rcases h2 with ⟨h2, _⟩ | ⟨g', cap', cur, hv, hg, hh, hnn, hm, hs, ht⟩
    · cases h2
    · simp only [Value.slice.injEq, Option.some.injEq, Addr.mk.injEq, and_true] at hv
      obtain ⟨rfl, hnl, rfl⟩ := hv
      have hs2 : cur.size = c * 2 := hs
      obtain ⟨Z, hZ⟩ : ∃ Z, (Builtin.zeroCells (Value.agg #[.string ⟨#[]⟩, .string ⟨#[]⟩]).cells (n - i)).toList = Z := ⟨_, rfl⟩
      have hz : Z.length = (n - i) * 2 := by rw [← hZ, Array.length_toList, size_zeroCells]; rfl
      have hone : ∀ v ∈ Z, v.oneCell' = true := by
        intro v hv
        rw [← hZ] at hv
        have hv := Array.mem_toList_iff.1 hv
        unfold Builtin.zeroCells at hv
        obtain ⟨j, hj, rfl⟩ := Array.mem_iff_getElem.1 hv
        have h2 : j % 2 = 0 ∨ j % 2 = 1 := by omega
        simp [Value.cells]
        rcases h2 with h2 | h2 <;> simp [h2] <;> rfl
      have hst := run_storeCells_at (P := Tryd.prog) b (i * 2) 33 Z 0 cur w hh (by rw [hz, hs2]; omega) hone
      refine ⟨w.setRow b (cur.toList.take (i * 2 + 0) ++ Z ++ cur.toList.drop (i * 2 + 0 + Z.length)).toArray, fun ty => ?_, ⟨by rw [encF.flat_len], .inr ⟨b, c, (cur.toList.take (i * 2 + 0) ++ Z ++ cur.toList.drop (i * 2 + 0 + Z.length)).toArray, ?_, hg, setRow_heap w b cur _ 33 (0, 0) hh, ?_, hm, ?_, ?_⟩⟩, ⟨rfl, rfl, rfl, by simp, fun k _ hk => setRow_other w b k _ (fun e => hk (by rw [e]))⟩⟩
      · obtain ⟨m, hmm⟩ : ∃ m, n - i = m + 1 := ⟨n - i - 1, by omega⟩
        rw [hmm] at hZ ⊢
        simp [Builtin.clear_, run_underlying Tryd.underlying22, zeroF, hZ, hst]
      · rw [List.length_take]; congr 1; omega
      · rw [List.length_take]; omega
      · simp only [List.size_toArray, List.length_append, List.length_take, List.length_drop, Array.length_toList, hz, hs2]
        show _ = c * 2
        omega
      · rw [List.length_take, encF.flat_take, ← ht]
        have e1 : min i ys.length * encF.k = i * 2 := by rw [Nat.min_eq_left (by omega)]; rfl
        rw [e1]
        show ((cur.toList.take (i * 2 + 0) ++ Z ++ cur.toList.drop (i * 2 + 0 + Z.length))).take (i * 2) = (cur.toList.take (ys.length * encF.k)).take (i * encF.k)
        rw [List.append_assoc, List.take_append_of_le_length (by rw [List.length_take, Array.length_toList, hs2]; omega), List.take_take, List.take_take]
        congr 1
        show _ = min (i * 2) (ys.length * 2)
        omega
  · obtain rfl : i = n := by omega
    refine ⟨w, fun ty => ?_, hcut, World.grownBy.refl w _⟩
    rw [Nat.sub_self]
    cases A <;> simp [Builtin.clear_, run_underlying Tryd.underlying22]
theorem filter_one (p : Fld → Bool) (x : Fld) : [x].filter (fun y => !p y) = if p x then [] else [x] := by
  cases h : p x <;> simp [h]
/-- What the first test that takes tells. -/
theorem idx_of (p : Fld → Bool) (l : List Fld) : (Lib.idxBy (fun _ y => p y) (l.take l.length) default = -1 ∧ l.filter (fun x => !p x) = l) ∨
    ∃ k, k < l.length ∧ Lib.idxBy (fun _ y => p y) (l.take l.length) default = (k : Int) ∧ (l.take (k + 1)).filter (fun x => !p x) = l.take k := by
  by_cases h : ∀ x ∈ l, p x = false
  · refine .inl ⟨Lib.idxBy_miss _ l l.length default (fun j hj => ?_), ?_⟩
    · rw [getElem!_pos l j hj]; exact h _ (List.getElem_mem hj)
    · rw [List.filter_eq_self]
      intro x hx; rw [h x hx]; rfl
  · refine .inr ?_
    have hx : ∃ k, k < l.length ∧ p (l.getD k default) = true := by
      simp only [Classical.not_forall] at h
      obtain ⟨x, hx, hp⟩ := h
      obtain ⟨k, hk, rfl⟩ := List.getElem_of_mem hx
      exact ⟨k, hk, by rw [List.getD_eq_getElem?_getD, List.getElem?_eq_getElem hk]; simpa using hp⟩
    have hmin : ∃ k, (k < l.length ∧ p (l.getD k default) = true) ∧ ∀ j, j < k → ¬ (j < l.length ∧ p (l.getD j default) = true) := by
      obtain ⟨k, hk⟩ := hx
      induction k using Nat.strongRecOn with
      | ind k ih =>
        by_cases hh : ∃ j, j < k ∧ (j < l.length ∧ p (l.getD j default) = true)
        · obtain ⟨j, hj, hj2⟩ := hh; exact ih j hj hj2
        · exact ⟨k, hk, fun j hj hj2 => hh ⟨j, hj, hj2⟩⟩
    obtain ⟨k, ⟨hk, hpk⟩, hm⟩ := hmin
    have hpre : ∀ j, j < k → p (l.getD j default) = false := fun j hj => by
      rcases e : p (l.getD j default) with _ | _
      · rfl
      · exact absurd ⟨by omega, e⟩ (hm j hj)
    have hgd : ∀ j (hj : j < l.length), l.getD j default = l[j] := fun j hj => by rw [List.getD_eq_getElem?_getD, List.getElem?_eq_getElem hj]; rfl
    refine ⟨k, hk, Lib.idxBy_hit _ l l.length k default hk (Nat.le_refl _) (by rw [getElem!_pos l k hk, ← hgd k hk]; exact hpk) (fun j hj => by rw [getElem!_pos l j (by omega), ← hgd j (by omega)]; exact hpre j hj), ?_⟩
    rw [List.take_succ_eq_append_getElem hk, List.filter_append]
    have e1 : (l.take k).filter (fun x => !p x) = l.take k := by
      rw [List.filter_eq_self]
      intro x hx
      obtain ⟨j, hj, rfl⟩ := List.getElem_of_mem hx
      rw [List.length_take] at hj
      rw [List.getElem_take, ← hgd j (by omega), hpre j (by omega)]; rfl
    rw [e1, ← hgd k hk, filter_one, hpk]
    simp
theorem drop_getD {ys l : List Fld} {j : Nat} (h : ys.drop j = l.drop j) : ys.getD j default = l.getD j default := by
  have := congrArg (fun z => z[0]?) h
  rw [List.getElem?_drop, List.getElem?_drop, Nat.add_zero] at this
  rw [List.getD_eq_getElem?_getD, List.getD_eq_getElem?_getD, this]
theorem drop_more {ys l : List Fld} {j : Nat} (h : ys.drop j = l.drop j) : ys.drop (j + 1) = l.drop (j + 1) := by
  rw [← List.drop_drop, ← List.drop_drop, h]
theorem take_step {p : Fld → Bool} {ys l : List Fld} {i j : Nat} (hj : j < l.length) (h : ys.take i = (l.take j).filter fun x => !p x) : ((l.take (j + 1)).filter fun x => !p x) = ys.take i ++ (if p (l.getD j default) then [] else [l.getD j default]) := by
  rw [List.take_succ_eq_append_getElem hj, List.filter_append, h, filter_one, List.getD_eq_getElem?_getD, List.getElem?_eq_getElem hj]; rfl
theorem take_put {ys : List Fld} {i : Nat} (hi : i < ys.length) (x : Fld) : (ys.set i x).take (i + 1) = ys.take i ++ [x] := by
  rw [List.take_succ_eq_append_getElem (by rw [List.length_set]; exact hi), List.getElem_set_self, List.take_set_of_le (Nat.le_refl i)]
theorem drop_put {ys : List Fld} {i j : Nat} (hi : i < j) (x : Fld) : (ys.set i x).drop j = ys.drop j := List.drop_set_of_lt hi
/-- The cells of an owned row's element. -/
theorem cells_of {w : World} {base b n c j : Nat} {ys : List Fld} (h : Own encF w base 33 (.slice (some ⟨b, 0, none⟩) n c) ys) (hj : j < n) : ys.length = n ∧
    w.cell? ⟨b, j * 2, none⟩ = some (.string (ys.getD j default).1) ∧ w.cell? ⟨b, j * 2 + 1, none⟩ = some (.string (ys.getD j default).2) := by
  obtain ⟨a', cap', e, _, _, _, hel⟩ := h.at_
  simp only [Value.slice.injEq] at e
  obtain ⟨rfl, rfl, rfl⟩ := e
  obtain ⟨b', off, e, hb, hc⟩ := hel j hj
  simp only [Option.some.injEq, Addr.mk.injEq, and_true] at e
  obtain ⟨rfl, rfl⟩ := e
  have hx : ys.getD j default = ys[j] := by rw [List.getD_eq_getElem?_getD, List.getElem?_eq_getElem hj]; rfl
  rw [hx]
  have h0 := hc 0 (by decide)
  have h1 := hc 1 (by decide)
  rw [Nat.zero_add, Nat.add_zero] at h0
  rw [Nat.zero_add] at h1
  exact ⟨rfl, h0, h1⟩
/-- A whole element put into an owned row. -/
theorem put_own {w : World} {base b n c i : Nat} {ys : List Fld} (h : Own encF w base 33 (.slice (some ⟨b, 0, none⟩) n c) ys) (hn : ys.length = n) (hi : i < n) (x : Fld) :
    Own encF ((w.setCell ⟨b, i * 2, none⟩ (.string x.1)).setCell ⟨b, i * 2 + 1, none⟩ (.string x.2)) base 33 (.slice (some ⟨b, 0, none⟩) n c) (ys.set i x) := by
  have h1 := own_store h i 0 (by omega) (by decide) (.string x.1) (x.1, ys[i].2) rfl
  have h2 := own_store h1 i 1 (by rw [List.length_set]; omega) (by decide) (.string x.2) x (by rw [List.getElem_set_self]; rfl)
  rw [List.set_set] at h2
  exact h2
set_option maxRecDepth 100000 in
set_option maxHeartbeats 8000000 in
/-- slices.DeleteFunc on a row of the call's own: what the test does not take stays, in order. -/
theorem del_any (p : Fld → Bool) (g : Nat) (lb : Array Value) (eg : ∀ args w, (callFunc g args).run Tryd.prog w = .ok (.enter g args) w) (base b c : Nat) (l : List Fld) (w : World) (h : Own encF w base 33 (.slice (some ⟨b, 0, none⟩) l.length c) l)
    (hbig : l.length < 1000000000) (hbs : base ≤ w.heap.size) (hp : ∀ (W : World) (x : Fld), Below base w W → Calls Tryd.prog g (#[.agg (encF.enc x).toArray] ++ lb) W fun e w' => e = .returned (.bool (p x)) ∧ Below W.heap.size W w') :
    Calls Tryd.prog 23 #[.slice (some ⟨b, 0, none⟩) l.length c, .func (.func g) #[] lb] w fun e w' => ∃ n', e = .returned (.slice (some ⟨b, 0, none⟩) n' c) ∧ n' = (l.filter fun x => !p x).length ∧ Own encF w' base 33 (.slice (some ⟨b, 0, none⟩) n' c) (l.filter fun x => !p x) ∧ Below base w w' := by
  have hat := h.at_
  have hbb : base ≤ b ∧ b < w.heap.size := h.lt b rfl
  have HI : Hid (Calls Tryd.prog 35 #[.slice (some ⟨b, 0, none⟩) l.length c, .func (.func g) #[] lb] w fun e w' => e = .returned (.int .i64 (Lib.idxBy (fun _ y => p y) (l.take l.length) default)) ∧ Below w.heap.size w w') :=
    (AnyQ.slices_IndexFunc Tryd.ifFields 2 (fun w => Tryd.isAgg33 w) (fun w => Tryd.sizeOf33 w) encF.enc encF.len p g lb eg b 0 l.length c l w (fun W x hW => (hp W x (hW.mono hbs)).mono fun e w' hh => ⟨hh.1, hW.trans (hh.2.mono hW.size)⟩) (Nat.le_refl _) (by omega) hbb.2 (fun j hj i v hv => by
      obtain ⟨_, hc⟩ := hat.cells
      have := hc (j * 2 + i) v (by
        have hi : i < 2 := by have := (List.getElem?_eq_some_iff.1 hv).1; rwa [encF.len] at this
        have e := encF.flat_at l j hj i hi
        rw [getElem!_pos l j hj] at hv
        exact e.trans hv)
      rw [Addr.add_lit] at this
      rw [Nat.add_assoc]; exact this))
  have HP := Lib.hid hp
  have HO := Lib.hid h
  clear hp h hat
  rcases idx_of p l with ⟨hm, hf⟩ | ⟨k, hk, hm, hf⟩
  · rw [hm] at HI
    rw [hf]
    obtain ⟨n, hn⟩ : ∃ n, l.length = n := ⟨_, rfl⟩
    rw [hn] at HI HO ⊢
    clear hm hf
    have HN := Lib.hid hn
    clear hn
    go_enter Tryd.func23, Tryd.ntmps23
    go_wp2_with (go_at_call 35; (with_reducible refine HI.out.mono ?_); rintro e w1 ⟨rfl, hB1⟩)
    go_ret
    exact ⟨_, rfl, rfl, own_below HO.out hB1, hB1.mono hbs⟩
  · rw [hm] at HI
    obtain ⟨R, hR⟩ : ∃ R, (l.filter fun x => !p x) = R := ⟨_, rfl⟩
    rw [hR]
    have HR := Lib.hid hR
    obtain ⟨n, hn⟩ : ∃ n, l.length = n := ⟨_, rfl⟩
    rw [hn] at HI HO hk hbig ⊢
    have HN := Lib.hid hn
    have HF := Lib.hid hf
    have hkk : ((k : Int) == -1) = false := beq_eq_false_iff_ne.2 (by omega)
    have hk1 : (0 : Int) ≤ (k : Int) := by omega
    clear hm hf hn hR
    go_enter Tryd.func23, Tryd.ntmps23
    go_wp2_with (go_at_call 35; (with_reducible refine HI.out.mono ?_); rintro e w1 ⟨rfl, hB1⟩)
    clear hkk hk1
    have HK0 := Lib.hid hk
    clear hk
    go_loopw [5, 6] (fun iv jv wr => ∃ (i j : Nat) (ys : List Fld), iv = .int .i64 i ∧ jv = .int .i64 j ∧ i < j ∧ j ≤ n ∧ Hid (ys.length = n) ∧ Hid (Own encF wr base 33 (.slice (some ⟨b, 0, none⟩) n c) ys) ∧ Hid (ys.take i = (l.take j).filter fun x => !p x) ∧ Hid (ys.drop j = l.drop j) ∧ Hid (Below base w wr ∧ w.heap.size ≤ wr.heap.size)) (fun _ jv _ => n - (intOf jv).toNat)
    case atStart => exact ⟨k, k + 1, l, rfl, (by go_num), by omega, HK0.out, HN, own_below HO.out hB1, HF.out.symm, rfl, ⟨hB1.mono hbs, hB1.size⟩⟩
    case round =>
      obtain ⟨i, j, ys, rfl, rfl, hij, hj, HY, HW, HT, HD, HB⟩ := hrel
      clear hB1 HI
      by_cases hlt : j < n
      · obtain ⟨_, c0, c1⟩ := cells_of HW.out hlt
        obtain ⟨hio, ci0, ci1⟩ := cells_of HW.out (show i < n by omega)
        have hx := drop_getD HD.out
        have hst := take_step (p := p) (by rw [HN.out]; exact hlt) HT.out
        have hdr := drop_more HD.out
        rw [hx] at c0 c1
        generalize (ys.getD i default).1 = o0 at ci0
        generalize (ys.getD i default).2 = o1 at ci1
        have hpx := HP.out
        obtain ⟨xa, xb, hxx⟩ : ∃ xa xb, l.getD j default = (xa, xb) := ⟨_, _, rfl⟩
        rw [hxx] at c0 c1 hst
        have HPX : Hid (∀ (W : World), Below base w W → Calls Tryd.prog g (#[.agg #[.string xa, .string xb]] ++ lb) W fun e w' => e = .returned (.bool (p (xa, xb))) ∧ Below W.heap.size W w') := fun W hW => hpx W (xa, xb) hW
        have HST := Lib.hid hst
        have HDR := Lib.hid hdr
        clear hst hdr hpx hx hxx
        simp only at c0 c1
        have hi0 : (0 : Int) ≤ (i : Int) := by omega
        have hi1 : (i : Int) < (n : Int) := by omega
        have hj0 : (0 : Int) ≤ (j : Int) := by omega
        have hj1 : (j : Int) < (n : Int) := by omega
        have hfr := own_frozen HW.out
        have hN0 : b < wr.heap.size := (HW.out.lt b rfl).2
        have hwz := HB.out.2
        have hbw : base ≤ wr.heap.size := Nat.le_trans hbs hwz
        cases hq : p (xa, xb) with
        | true =>
          rw [hq] at HPX HST
          go_wp2_with (go_at_fn g; (with_reducible refine (HPX.out _ (HB.out.1.alloc hbw _)).mono ?_); rintro e w2 ⟨rfl, hB2⟩)
          have hs2 : wr.heap.size + 1 ≤ w2.heap.size := by simpa using hB2.size
          go_roundw
          case measure => simp [intOf]; omega
          case rel =>
            refine ⟨i, j + 1, ys, rfl, (by go_num), by omega, by omega, HY, own_below (HW.out.alloc _) hB2, ?_, HDR.out, ⟨(HB.out.1.alloc hbw _).trans (hB2.mono (by simp; omega)), by omega⟩⟩
            exact (HST.out.trans (List.append_nil _)).symm
        | false =>
          rw [hq] at HPX HST
          have HD0 : Hid (∀ w2, Below (wr.alloc (.cells #[.string xa, .string xb] 33)).heap.size (wr.alloc (.cells #[.string xa, .string xb] 33)) w2 → w2.cell? ⟨wr.heap.size, 0, none⟩ = some (.string xa) ∧ w2.cell? ⟨wr.heap.size, 1, none⟩ = some (.string xb) ∧ w2.cell? ⟨b, i * 2, none⟩ = some (.string o0) ∧ w2.cell? ⟨b, i * 2 + 1, none⟩ = some (.string o1) ∧ (∀ i, w2.frozen? ⟨b, i, none⟩ = false) ∧ wr.heap.size + 1 ≤ w2.heap.size ∧ Own encF w2 base 33 (.slice (some ⟨b, 0, none⟩) n c) ys) := fun w2 hB2 =>
            ⟨(hB2.cell (p := ⟨wr.heap.size, 0, none⟩) (by simp)).trans (World.cell?_alloc_new _ _ _ _), (hB2.cell (p := ⟨wr.heap.size, 1, none⟩) (by simp)).trans (World.cell?_alloc_new _ _ _ _), (hB2.cell (p := ⟨b, i * 2, none⟩) (by simp; omega)).trans ((World.cell?_alloc_lt _ _ _ hN0).trans ci0), (hB2.cell (p := ⟨b, i * 2 + 1, none⟩) (by simp; omega)).trans ((World.cell?_alloc_lt _ _ _ hN0).trans ci1), own_frozen (own_below (HW.out.alloc _) hB2), by simpa using hB2.size, own_below (HW.out.alloc _) hB2⟩
          go_wp2_with (go_at_fn g; (with_reducible refine (HPX.out _ (HB.out.1.alloc hbw _)).mono ?_); rintro e w2 ⟨rfl, hB2⟩; obtain ⟨d0, d1, e0, e1, hfr2, hs2, hO2⟩ := HD0.out w2 hB2; have HO2 := Lib.hid hO2; clear hO2)
          go_roundw
          case measure => simp [intOf]; omega
          case rel =>
            refine ⟨i + 1, j + 1, ys.set i (xa, xb), (by go_num), (by go_num), by omega, by omega, (by rw [List.length_set]; exact hio), put_own HO2.out hio (by omega) (xa, xb), ?_, ?_, ⟨((((HB.out.1.alloc hbw _).trans (hB2.mono (by simp; omega))).setCell hbb.1 _).setCell hbb.1 _), by simp; omega⟩⟩
            · rw [take_put (by omega)]
              exact HST.out.symm
            · rw [drop_put (by omega)]
              exact HDR.out
      · obtain rfl : n = j := by omega
        obtain ⟨w3, hcl, hO3, hG3⟩ := run_clear_own HW.out HY.out.symm i (by omega) (some ⟨b, i * 2, none⟩) (c - i) (fun _ => rfl)
        have hi0 : (0 : Int) ≤ (i : Int) := by omega
        have hi1 : (i : Int) ≤ (n : Int) := by omega
        have hN : ¬ ((n : Int) < (n : Int)) := by omega
        have hnc : n ≤ c := by
          obtain ⟨a', c', e, h1, _⟩ := HW.out.slice
          simp only [Value.slice.injEq] at e
          obtain ⟨_, e1, rfl⟩ := e
          omega
        have hi2 : (i : Int) ≤ (c : Int) := by omega
        have hi3 : ¬ (c = i) := by omega
        have HO3 := Lib.hid hO3
        have HG3 := Lib.hid hG3
        clear hO3 hG3
        go_wp2
        go_ret
        have e1 : l.take n = l := by rw [← HN.out]; exact List.take_length
        have e2 : R = ys.take i := by rw [HT.out, e1]; exact HR.out.symm
        rw [e2]
        exact ⟨_, rfl, by rw [List.length_take, HY.out]; omega, HO3.out, HB.out.1.grown HG3.out (Nat.le_trans hbs HB.out.2) (fun k e => by cases e; exact hbb.1)⟩
/-- slices.Clone of fields. -/
theorem clone_nil (w : World) : Calls Tryd.prog 24 #[.slice none 0 0] w fun e w' => e = .returned (.slice none 0 0) ∧ w = w' := by
  have hq := fun (w : World) (a : Option Addr) (n c : Nat) => Lib.run_eql_slice_nil (P := Tryd.prog) w 22 33 a n c 0 0 Tryd.underlying22
  go_enter Tryd.func24, Tryd.ntmps24
  go_wp2
  go_ret
  exact ⟨rfl, rfl⟩
theorem clone_some (x : Addr) (n cap : Nat) (l : List Fld) (w : World) (h : At encF w (.slice (some x) n cap) l) (hl : l.length ≤ 1099511627) :
    Calls Tryd.prog 24 #[.slice (some x) n cap] w fun e w' => ∃ b c, e = .returned (.slice (some ⟨b, 0, none⟩) n c) ∧ Own encF w' w.heap.size 33 (.slice (some ⟨b, 0, none⟩) n c) l ∧ Below w.heap.size w w' := by
  have hnl : l.length = n := by
    obtain ⟨a', cap', e, _⟩ := h
    simp only [Value.slice.injEq] at e
    exact e.2.1.symm
  have H := Lib.hid h
  clear h
  have hq := fun (w : World) (a : Option Addr) (n c : Nat) => Lib.run_eql_slice_nil (P := Tryd.prog) w 22 33 a n c 0 0 Tryd.underlying22
  have hlit : Own encF (w.alloc (.cells #[] 33)) w.heap.size 33 (.slice (some ⟨w.heap.size, 0, none⟩) 0 0) [] := Own.lit w #[] [] (Nat.le_refl _) (by decide) rfl
  have HLIT := Lib.hid hlit
  have HN := Lib.hid hnl
  have HLL := Lib.hid hl
  clear hlit hnl hl
  go_enter Tryd.func24, Tryd.ntmps24
  go_wp2_with (at_builtin; refine wpList_append elemF rfl _ _ rfl w.heap.size _ rfl HLIT.out _ _ rfl (H.out.old ((Below.refl _ _).alloc (Nat.le_refl _) _)) (by have := HLL.out; simp; omega) (by simp) ?_; intro v2 w2 hown2 hB2 hg2 hat2)
  go_ret
  rw [List.nil_append] at hown2
  obtain ⟨a', c', rfl, _, _, _, h4⟩ := hown2.slice
  cases a' with
  | none => rcases hat2 with hat2 | hat2 <;> cases hat2
  | some y =>
    obtain ⟨g, _, rfl, _⟩ := h4 y rfl
    refine ⟨g, c', by rw [HN.out]; rfl, by rw [← HN.out]; exact hown2, ((Below.refl _ _).alloc (Nat.le_refl _) _).trans hB2⟩
/-- Of a nil slice nothing is to be deleted. -/
theorem idx_nil (g : Nat) (lb : Array Value) (w : World) : Calls Tryd.prog 35 #[.slice none 0 0, .func (.func g) #[] lb] w fun e w' => e = .returned (.int .i64 (-1)) ∧ w = w' := by
  go_enter Tryd.func35, Tryd.ntmps35
  go_wp2_with fail
  go_loopw [8] (fun iv wr => iv = .int .i64 0 ∧ w = wr) (fun _ _ => 0)
  case atStart => exact ⟨rfl, rfl⟩
  case round =>
    obtain ⟨rfl, rfl⟩ := hrel
    go_wp2_with fail
    go_ret
    exact ⟨rfl, rfl⟩
theorem del_nil (g : Nat) (lb : Array Value) (w : World) : Calls Tryd.prog 23 #[.slice none 0 0, .func (.func g) #[] lb] w fun e w' => e = .returned (.slice none 0 0) ∧ w = w' := by
  have HI := Lib.hid (idx_nil g lb w)
  go_enter Tryd.func23, Tryd.ntmps23
  go_wp2_with (go_at_call 35; (with_reducible refine HI.out.mono ?_); rintro e w1 ⟨rfl, rfl⟩)
  go_ret
  exact ⟨rfl, rfl⟩
end Go.Proofs.YtooplackonnemaaDoor.FieldsC
