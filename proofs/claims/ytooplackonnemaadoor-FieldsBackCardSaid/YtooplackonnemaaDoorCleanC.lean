/-
  fields.Clean: what is between two sides alone goes.
  Conditions: the sum of the values' lengths; bytealg.MaxLen's cell.
-/
import Derived.Test.YtooplackonnemaaDoorFieldsDel
import Derived.Test.YtooplackonnemaaDoorShelf
import Derived.Test.YtooplackonnemaaDoorLineC
import Derived.Lib.SplitLaws
import Derived.Lib.CountLaws
namespace Go.Proofs.YtooplackonnemaaDoor.FieldsC
open Go.RowKit Go.Shelf RowsK RowsM FieldRows LineC
set_option linter.unusedVariables false
set_option linter.unusedSimpArgs false

def encT : Enc ByteArray := ⟨1, fun s => [.string s], fun _ => rfl, fun x v hv => by simp at hv; subst hv; rfl, by decide⟩
theorem elemT : Elem Tryd.prog 44 9 encT.k 16 := Elem.of (z := .string ⟨#[]⟩) Tryd.underlying44 (by kernel_rfl) rfl (by decide)
def sepS : ByteArray := ⟨#[44, 32]⟩
def partsOf (s : ByteArray) : List ByteArray := Lib.splitB sepS 0 (Lib.countB s sepS) s
def tokF (s : ByteArray) : Bool := tokL s.data.toList
def isConn (s : ByteArray) : Bool := s.toList == [99, 111, 110, 110, 101, 99, 116, 105, 111, 110]
def isLength (s : ByteArray) : Bool := s.toList == [108, 101, 110, 103, 116, 104]
def betweenB (s : ByteArray) : Bool := isConn s || s.toList == [99, 111, 100, 105, 110, 103] || s.toList == [107, 101, 101, 112] || s.toList == [117, 112, 103, 114, 97, 100, 101]
def namesOf (f : Fld) : List ByteArray := if isConn f.1 then (partsOf f.2).filter tokF else []
def named (l : List Fld) : List ByteArray := l.flatMap namesOf
def goneB (ns : List ByteArray) (f : Fld) : Bool := betweenB f.1 || isLength f.1 || Lib.containsS ns f.1
def weight (l : List Fld) : Nat := (l.map fun f => f.2.size + 1).sum
def cleanL (l : List Fld) : List Fld := l.filter fun f => !goneB (named l) f
theorem parts_len (s : ByteArray) : (partsOf s).length = Lib.countB s sepS + 1 := Lib.splitB_all sepS (by decide) 0 _ s rfl
theorem parts_le (s : ByteArray) : (partsOf s).length ≤ s.size + 1 := by
  rw [parts_len]
  have := Lib.countB_le sepS (by decide) s.size s (Nat.le_refl _)
  omega
theorem weight_app (l r : List Fld) : weight (l ++ r) = weight l + weight r := by simp [weight]
theorem weight_take (l : List Fld) (i : Nat) : weight (l.take i) ≤ weight l := by
  have h := weight_app (l.take i) (l.drop i)
  rw [List.take_append_drop] at h
  omega
theorem weight_mem {l : List Fld} {f : Fld} (h : f ∈ l) : f.2.size < weight l := by
  obtain ⟨a, b, rfl⟩ := List.append_of_mem h
  simp [weight]; omega
theorem len_weight (l : List Fld) : l.length ≤ weight l := by
  induction l with
  | nil => simp
  | cons a l ih => simp only [weight, List.map_cons, List.sum_cons, List.length_cons] at ih ⊢; omega
theorem named_app (l r : List Fld) : named (l ++ r) = named l ++ named r := by simp [named]
theorem names_le (f : Fld) : (namesOf f).length ≤ f.2.size + 1 := by
  unfold namesOf
  split
  · exact Nat.le_trans (List.length_filter_le _ _) (parts_le _)
  · simp
theorem named_le (l : List Fld) : (named l).length ≤ weight l := by
  induction l with
  | nil => simp [named]
  | cons a l ih =>
    have h := names_le a
    simp only [named, weight, List.flatMap_cons, List.length_append, List.map_cons, List.sum_cons] at ih ⊢
    omega
theorem named_step {l : List Fld} {i : Nat} (hi : i < l.length) : named (l.take (i + 1)) = named (l.take i) ++ namesOf l[i] := by
  rw [List.take_succ_eq_append_getElem hi, named_app]
  simp [named]
set_option maxRecDepth 100000 in
theorem between_any (s : ByteArray) (w : World) : Calls Tryd.prog 15 #[.string s] w fun e w' => e = .returned (.bool (betweenB s)) ∧ w = w' := by
  unfold betweenB isConn
  rcases h1 : (s.toList == [99, 111, 110, 110, 101, 99, 116, 105, 111, 110]) with _ | _
  · rcases h2 : (s.toList == [99, 111, 100, 105, 110, 103]) with _ | _
    · rcases h3 : (s.toList == [107, 101, 101, 112]) with _ | _
      · go_enter Tryd.func15, Tryd.ntmps15
        go_wp2_with fail
        go_ret
        exact ⟨by simp, rfl⟩
      · go_enter Tryd.func15, Tryd.ntmps15
        go_wp2_with fail
        go_ret
        exact ⟨by simp, rfl⟩
    · go_enter Tryd.func15, Tryd.ntmps15
      go_wp2_with fail
      go_ret
      exact ⟨by simp, rfl⟩
  · go_enter Tryd.func15, Tryd.ntmps15
    go_wp2_with fail
    go_ret
    exact ⟨by simp, rfl⟩
/-- The cell that holds the names. -/
structure NamedAt (W : World) (C : Nat) (nv : Value) (ns : List ByteArray) : Prop where
  cell : W.cell? ⟨C, 0, none⟩ = some nv
  thaw : W.frozen? ⟨C, 0, none⟩ = false
  own : Own encT W (C + 1) 9 nv ns
theorem NamedAt.lt {W : World} {C : Nat} {nv : Value} {ns : List ByteArray} (h : NamedAt W C nv ns) : C < W.heap.size := block_lt_of_cell h.cell
theorem NamedAt.keep {W W' : World} {C : Nat} {nv : Value} {ns : List ByteArray} (h : NamedAt W C nv ns) (hB : Below W.heap.size W W') : NamedAt W' C nv ns :=
  ⟨(hB.cell (p := ⟨C, 0, none⟩) h.lt).trans h.cell, (hB.frozen (p := ⟨C, 0, none⟩) h.lt).trans h.thaw, own_below h.own hB⟩
theorem NamedAt.keepB {W W' : World} {C B : Nat} {nv : Value} {ns : List ByteArray} (h : NamedAt W C nv ns) (hB : Below B W W') (hs : W.heap.size ≤ B) : NamedAt W' C nv ns := h.keep (hB.mono hs)
/-- slices.Contains on the names. -/
theorem contains_any (nv : Value) (ns : List ByteArray) (x : ByteArray) (W : World) (b0 : Nat) (h : Own encT W b0 9 nv ns) : Calls Tryd.prog 28 #[nv, .string x] W fun e w' => e = .returned (.bool (Lib.containsS ns x)) ∧ w' = W := by
  obtain ⟨a, c, rfl, h1, h2, h3, h4⟩ := h.at_
  cases a with
  | none =>
    have hn : ns = [] := List.eq_nil_of_length_eq_zero (by have := h3 rfl; omega)
    subst hn
    exact Tryd.slices_Contains_string_empty _ _ _ _
  | some p =>
    by_cases h0 : ns = []
    · subst h0
      exact Tryd.slices_Contains_string_empty _ _ _ _
    · obtain ⟨b, off, e, _⟩ := h4 0 (List.length_pos_iff.2 h0)
      obtain rfl := Option.some.inj e
      have := Tryd.slices_Contains_string b off ns.length c ns x W (Nat.le_refl _) (by omega) (fun j hj => by
        obtain ⟨b', off', e2, _, hc⟩ := h4 j hj
        simp only [Option.some.injEq, Addr.mk.injEq, and_true] at e2
        obtain ⟨rfl, rfl⟩ := e2
        have h0 := hc 0 (by decide)
        rw [Nat.add_zero] at h0
        rw [List.getD_eq_getElem?_getD, List.getElem?_eq_getElem hj]
        have e3 : j * encT.k = j := Nat.mul_one j
        rw [e3] at h0
        exact h0)
      rw [List.take_length] at this
      exact this
set_option maxRecDepth 100000 in
set_option maxHeartbeats 4000000 in
theorem clean1_any (ns : List ByteArray) (C : Nat) (nv : Value) (f : Fld) (W : World) (h : NamedAt W C nv ns) :
    Calls Tryd.prog 27 (#[.agg (encF.enc f).toArray] ++ #[.pointer (some ⟨C, 0, none⟩)]) W fun e w' => e = .returned (.bool (goneB ns f)) ∧ Below W.heap.size W w' := by
  obtain ⟨a, b⟩ := f
  show Calls Tryd.prog 27 #[.agg #[.string a, .string b], .pointer (some ⟨C, 0, none⟩)] W _
  have hlt := h.lt
  have hC : (W.alloc (.cells #[.string a, .string b] 33)).cell? ⟨C, 0, none⟩ = some nv := (World.cell?_alloc_lt _ _ _ hlt).trans h.cell
  obtain ⟨na, nc, e, _⟩ := h.own.slice
  have HB := Lib.hid (between_any a)
  have HN := Lib.hid (fun W' (hB : Below W.heap.size W W') => contains_any nv ns a W' _ ((h.keep hB).own))
  obtain ⟨cc, hcc⟩ : ∃ cc, Lib.containsS ns a = cc := ⟨_, rfl⟩
  unfold goneB
  rw [hcc] at HN ⊢
  clear h hcc
  subst e
  unfold isLength
  simp only
  rcases h1 : betweenB a with _ | _
  · rcases h2 : (a.toList == [108, 101, 110, 103, 116, 104]) with _ | _
    · rw [h1] at HB
      clear h1
      go_enter Tryd.func27, Tryd.ntmps27
      go_wp2_with (first
        | (go_at_call 15; (with_reducible refine (HB.out _).mono ?_); rintro e w1 ⟨rfl, rfl⟩)
        | (go_at_call 28; (with_reducible refine (HN.out _ ((Below.refl _ _).alloc (Nat.le_refl _) _)).mono ?_); rintro e w1 ⟨rfl, rfl⟩))
      go_ret
      exact ⟨by simp, (Below.refl _ _).alloc (Nat.le_refl _) _⟩
    · rw [h1] at HB
      clear h1
      go_enter Tryd.func27, Tryd.ntmps27
      go_wp2_with (go_at_call 15; (with_reducible refine (HB.out _).mono ?_); rintro e w1 ⟨rfl, rfl⟩)
      go_ret
      exact ⟨by simp, (Below.refl _ _).alloc (Nat.le_refl _) _⟩
  · rw [h1] at HB
    clear h1
    go_enter Tryd.func27, Tryd.ntmps27
    go_wp2_with (go_at_call 15; (with_reducible refine (HB.out _).mono ?_); rintro e w1 ⟨rfl, rfl⟩)
    go_ret
    exact ⟨by simp, (Below.refl _ _).alloc (Nat.le_refl _) _⟩
theorem filt_step {ps acc : List ByteArray} {j : Nat} (hj : j < ps.length) : acc ++ (ps.take (j + 1)).filter tokF = (acc ++ (ps.take j).filter tokF) ++ (if tokF ps[j] then [ps[j]] else []) := by
  rw [List.take_succ_eq_append_getElem hj, List.filter_append, List.append_assoc]
  congr 2
  cases h : tokF ps[j] <;> simp [h]
theorem NamedAt.put {W W2 : World} {C : Nat} {nv v2 : Value} {ns n2 : List ByteArray} (h : NamedAt W C nv ns) (hg : W.grownBy W2 nv.ownBlock) (ho : Own encT W2 (C + 1) 9 v2 n2) : NamedAt (W2.setCell ⟨C, 0, none⟩ v2) C v2 n2 := by
  have hne : nv.ownBlock ≠ some C := fun e => by have := (h.own.lt C e).1; omega
  have hb : W2.heap[C]? = W.heap[C]? := hg.block C h.lt (fun e => hne e.symm)
  have hc : W2.cell? ⟨C, 0, none⟩ = some nv := (World.cell?_of_block (a := ⟨C, 0, none⟩) hb).trans h.cell
  have hf : W2.frozen? ⟨C, 0, none⟩ = false := (World.frozen?_of_block (a := ⟨C, 0, none⟩) hb).trans h.thaw
  refine ⟨?_, ?_, ho.setCell _ _ (fun e => by have := (ho.lt C e).1; omega)⟩
  · exact World.cell?_setCell_same _ _ _ hc
  · rw [World.frozen?_setCell]; exact hf
theorem NamedAt.mid {W W2 : World} {C : Nat} {nv : Value} {ns : List ByteArray} (h : NamedAt W C nv ns) (hg : W.grownBy W2 nv.ownBlock) : W2.cell? ⟨C, 0, none⟩ = some nv ∧ W2.frozen? ⟨C, 0, none⟩ = false := by
  have hne : nv.ownBlock ≠ some C := fun e => by have := (h.own.lt C e).1; omega
  have hb : W2.heap[C]? = W.heap[C]? := hg.block C h.lt (fun e => hne e.symm)
  exact ⟨(World.cell?_of_block (a := ⟨C, 0, none⟩) hb).trans h.cell, (World.frozen?_of_block (a := ⟨C, 0, none⟩) hb).trans h.thaw⟩
theorem split_any (s : ByteArray) (W : World) (m : Int) (hm : W.cell? ⟨2, 0, none⟩ = some (.int .i64 m)) (hs : s.size < 4294967281) :
    Calls Tryd.prog 12 #[.string s, .string ⟨#[44, 32]⟩] W fun e w' => e = .returned (.slice (some ⟨W.heap.size, 0, none⟩) (partsOf s).length (partsOf s).length) ∧ (∀ j, j < (partsOf s).length → w'.cell? ⟨W.heap.size, j, none⟩ = some (.string ((partsOf s).getD j ByteArray.empty))) ∧ Below W.heap.size W w' ∧ W.heap.size < w'.heap.size := by
  refine (Tryd.strings_Split s sepS m W hs hm (by decide)).mono ?_
  rintro e w' ⟨rfl, rfl⟩
  refine ⟨by rw [parts_len], fun j hj => ?_, (Below.refl _ _).alloc (Nat.le_refl _) _, by simp⟩
  rw [World.cell?_alloc_new]
  show ((partsOf s).map Value.string).toArray[j]? = _
  rw [List.getElem?_toArray, List.getElem?_map, List.getElem?_eq_getElem hj, List.getD_eq_getElem?_getD, List.getElem?_eq_getElem hj]
  rfl
set_option maxRecDepth 100000 in
set_option maxHeartbeats 8000000 in
theorem clean_any (v : Value) (l : List Fld) (w : World) (m : Int) (hl : At encF w v l) (hwt : weight l < 1000000000) (hm : w.cell? ⟨2, 0, none⟩ = some (.int .i64 m)) :
    Calls Tryd.prog 9 #[v] w fun e w' => ∃ a n c, e = .returned (.slice a n c) ∧ Own encF w' w.heap.size 33 (.slice a n c) (cleanL l) ∧ Below w.heap.size w w' := by
  have HL := Lib.hid hl
  obtain ⟨a, cap, rfl, hcap, hcap2, _, hel⟩ := hl
  have HEL := Lib.hid hel
  have hm2 : 2 < w.heap.size := block_lt_of_cell hm
  have HM := Lib.hid (fun W (hB : Below w.heap.size w W) => (hB.cell (p := ⟨2, 0, none⟩) hm2).trans hm)
  have hln := len_weight l
  have HW := Lib.hid hwt
  obtain ⟨n, hn⟩ : ∃ n, l.length = n := ⟨_, rfl⟩
  have HN := Lib.hid hn
  rw [hn] at hcap hln HL ⊢
  obtain ⟨R, hR⟩ : ∃ R, cleanL l = R := ⟨_, rfl⟩
  rw [hR]
  have HR := Lib.hid hR
  clear hel hm hwt hR hn
  have hn63 : (n : Int) ≤ 9223372036854775807 := by omega
  go_enter Tryd.func9, Tryd.ntmps9
  go_wp2_with fail
  go_loopw [10] (fun iv wr => ∃ (i : Nat) (nv : Value), iv = .int .i64 i ∧ i ≤ n ∧ Hid (NamedAt wr w.heap.size nv (named (l.take i))) ∧ Hid (Below w.heap.size w wr)) (fun iv _ => n - (intOf iv).toNat)
  case atStart => exact ⟨0, .slice none 0 0, rfl, by omega, ⟨by simp, World.frozen?_alloc_at _ _ _ _ rfl, Own.nil _ _ _ _⟩, (Below.refl _ _).alloc (Nat.le_refl _) _⟩
  case round =>
    obtain ⟨i, nv, rfl, hi, HNM, HB⟩ := hrel
    have hsw := HB.out.size
    have hC := HNM.out.lt
    by_cases hlt : i < n
    · obtain ⟨b, off, rfl, hb, hc⟩ := HEL.out i (by rw [HN.out]; exact hlt)
      have c0 : wr.cell? ⟨b, off + i * 2, none⟩ = some (.string (l[i]'(by rw [HN.out]; exact hlt)).1) := (HB.out.cell (p := ⟨b, off + i * 2, none⟩) hb).trans (hc 0 (by decide))
      have c1 : wr.cell? ⟨b, off + i * 2 + 1, none⟩ = some (.string (l[i]'(by rw [HN.out]; exact hlt)).2) := (HB.out.cell (p := ⟨b, off + i * 2 + 1, none⟩) hb).trans (hc 1 (by decide))
      have hst := named_step (l := l) (i := i) (by rw [HN.out]; exact hlt)
      have hsz := weight_mem (List.getElem_mem (l := l) (n := i) (by rw [HN.out]; exact hlt))
      clear hc
      obtain ⟨xa, xb, hx⟩ : ∃ xa xb, l[i]'(by rw [HN.out]; exact hlt) = (xa, xb) := ⟨_, _, rfl⟩
      rw [hx] at c0 c1 hst hsz
      simp only at c0 c1 hsz
      have HST := Lib.hid hst
      have hszx : xb.size < 1000000000 := by have := HW.out; omega
      clear hst hsz hx
      have hi0 : (0 : Int) ≤ (i : Int) := by omega
      have hi1 : (i : Int) < (n : Int) := by omega
      rcases hcn : isConn xa with _ | _
      · have hne : (xa.toList == [99, 111, 110, 110, 101, 99, 116, 105, 111, 110]) = false := hcn
        go_wp2_with fail
        go_roundw
        case measure => simp [intOf]; omega
        case rel =>
          refine ⟨i + 1, nv, (by go_num), by omega, ?_, HB.out.alloc (by omega) _⟩
          have h := HST.out
          unfold namesOf at h
          rw [hcn, if_neg (by simp), List.append_nil] at h
          rw [h]
          exact HNM.out.keep ((Below.refl _ _).alloc (Nat.le_refl _) _)
      · have hne : (xa.toList == [99, 111, 110, 110, 101, 99, 116, 105, 111, 110]) = true := hcn
        obtain ⟨wo, hwo⟩ : ∃ wo : World, wo = wr := ⟨_, rfl⟩
        subst hwo
        have HSP := Lib.hid (split_any xb (wo.alloc (.cells #[.string xa, .string xb] 33)) m (HM.out _ (HB.out.alloc (by omega) _)) (by omega))
        have hple := parts_le xb
        obtain ⟨ps, hps⟩ : ∃ ps, partsOf xb = ps := ⟨_, rfl⟩
        have hns : named (l.take (i + 1)) = named (l.take i) ++ ps.filter tokF := by
          have h := HST.out
          unfold namesOf at h
          rw [hcn, if_pos rfl, hps] at h
          exact h
        rw [hps] at HSP hple
        obtain ⟨acc, hacc⟩ : ∃ acc, named (l.take i) = acc := ⟨_, rfl⟩
        rw [hacc] at hns HNM
        have hal : acc.length + xb.size < 2000000000 := by
          have h1 := named_le (l.take i)
          have h2 := weight_take l i
          have := HW.out
          rw [hacc] at h1
          omega
        have HNS := Lib.hid hns
        obtain ⟨N, hN⟩ : ∃ N, ps.length = N := ⟨_, rfl⟩
        rw [hN] at HSP hple
        have HNN := Lib.hid hN
        have hN63 : (N : Int) ≤ 9223372036854775807 := by omega
        clear hns hps hacc hcn HST hN
        obtain ⟨P, hP⟩ : ∃ P, (wo.alloc (.cells #[.string xa, .string xb] 33)).heap.size = P := ⟨_, rfl⟩
        rw [hP] at HSP
        have hPw : P = wo.heap.size + 1 := by rw [← hP]; simp
        have HPW := Lib.hid hPw
        clear hP hPw
        go_wp2_with (go_at_call 12; (with_reducible refine HSP.out.mono ?_); rintro e w2 ⟨rfl, hP, hB2, hs2⟩; have HP2 := Lib.hid hP; clear hP)
        go_loopw [21] (fun jv wr => ∃ (j : Nat) (nv : Value), jv = .int .i64 j ∧ j ≤ N ∧ Hid (NamedAt wr w.heap.size nv (acc ++ (ps.take j).filter tokF)) ∧ Hid (Below w.heap.size w wr) ∧ Hid (P < wr.heap.size ∧ w.heap.size < P ∧ nv.ownBlock ≠ some P ∧ ∀ j, j < N → wr.cell? ⟨P, j, none⟩ = some (.string (ps.getD j ByteArray.empty)))) (fun jv _ => N - (intOf jv).toNat)
        case atStart =>
          refine ⟨0, nv, rfl, by omega, ?_, (HB.out.alloc (by omega) _).trans (hB2.mono (by have := HPW.out; omega)), ⟨by omega, by have := HPW.out; omega, fun e => by have := (HNM.out.own.lt P e).2; have := HPW.out; omega, HP2.out⟩⟩
          have h := (HNM.out.keep ((Below.refl _ _).alloc (Nat.le_refl _) (.cells #[.string xa, .string xb] 33))).keepB hB2 (by have := HPW.out; simp; omega)
          rw [show acc ++ (ps.take 0).filter tokF = acc from by simp]
          exact h
        case round =>
          obtain ⟨j, nv2, rfl, hj, HM2, HB3, HP3⟩ := hrel
          obtain ⟨hp1, hp2, hp3, hp4⟩ := HP3.out
          have hC2 := HM2.out.lt
          by_cases hjl : j < N
          · have cp := hp4 j hjl
            have hst := filt_step (ps := ps) (acc := acc) (j := j) (by rw [HNN.out]; exact hjl)
            have hgd : ps.getD j ByteArray.empty = ps[j]'(by rw [HNN.out]; exact hjl) := by rw [List.getD_eq_getElem?_getD, List.getElem?_eq_getElem (by rw [HNN.out]; exact hjl)]; rfl
            rw [hgd] at cp
            generalize hsx : ps[j]'(by rw [HNN.out]; exact hjl) = s at cp hst
            have hlen : (acc ++ (ps.take j).filter tokF).length < 3000000000 := by
              have h1 := List.length_filter_le tokF (ps.take j)
              rw [List.length_take] at h1
              rw [List.length_append]; omega
            obtain ⟨ns, hns⟩ : ∃ ns, acc ++ (ps.take j).filter tokF = ns := ⟨_, rfl⟩
            rw [hns] at hst hlen HM2
            have HST := Lib.hid hst
            have HLE := Lib.hid hlen
            have HP4 := Lib.hid hp4
            have HT := Lib.hid (token_any s wr)
            have htt : tokL s.data.toList = tokF s := rfl
            rw [htt] at HT
            have hj0 : (0 : Int) ≤ (j : Int) := by omega
            have hj1 : (j : Int) < (N : Int) := by omega
            clear hst hlen hp4 hgd hsx hns htt
            rcases htk : tokF s with _ | _
            · rw [htk] at HT
              go_wp2_with (go_at_call 26; (with_reducible refine HT.out.mono ?_); rintro e w3 ⟨rfl, hB4⟩)
              go_roundw
              case measure => simp [intOf]; omega
              case rel =>
                have hs3 := hB4.size
                refine ⟨j + 1, nv2, (by go_num), by omega, ?_, HB3.out.trans (hB4.mono (by omega)), ⟨by omega, hp2, hp3, fun t ht => (hB4.cell (p := ⟨P, t, none⟩) hp1).trans (HP4.out t ht)⟩⟩
                have h := HST.out
                rw [htk, if_neg (by simp), List.append_nil] at h
                rw [h]
                exact HM2.out.keep hB4
            · rw [htk] at HT
              obtain ⟨na, nn, nc, rfl⟩ := own_form HM2.out.own
              have HD : Hid (∀ w3, Below wr.heap.size wr w3 → w3.cell? ⟨w.heap.size, 0, none⟩ = some (.slice na nn nc) ∧ w.heap.size < w3.heap.size ∧ NamedAt (w3.alloc (.cells #[.string s] 9)) w.heap.size (.slice na nn nc) ns ∧ At encT (w3.alloc (.cells #[.string s] 9)) (.slice (some ⟨w3.heap.size, 0, none⟩) 1 1) [s]) := fun w3 hB =>
                ⟨(HM2.out.keep hB).cell, by have := hB.size; omega, (HM2.out.keep hB).keep ((Below.refl _ _).alloc (Nat.le_refl _) _), (Own.lit (E := encT) (e := 9) w3 #[.string s] [s] (Nat.le_refl _) (by simp) rfl).at_⟩
              trace "tokens"
              go_wp2_with (first
                | (go_at_call 26; (with_reducible refine HT.out.mono ?_); rintro e w3 ⟨rfl, hB4⟩; obtain ⟨k0, k1, hN3, hA3⟩ := HD.out w3 hB4; have HN3 := Lib.hid hN3; have HA3 := Lib.hid hA3; clear hN3 hA3)
                | (at_builtin; refine wpList_append elemT rfl _ _ rfl (w.heap.size + 1) _ rfl HN3.out.own _ [s] rfl HA3.out (by have := HLE.out; simp only [List.length_cons, List.length_nil]; omega) (by simp; omega) ?_; intro v4 w4 hown4 hB5 hg4 hat4; obtain ⟨q0, q1⟩ := HN3.out.mid hg4; obtain ⟨a4, n4, c4, rfl⟩ := own_form hown4; have HO4 := Lib.hid hown4; have HG4 := Lib.hid hg4; have HA4 := Lib.hid hat4; clear hown4 hg4 hat4))
              go_roundw
              case measure => simp [intOf]; omega
              case rel =>
                have hs3 := hB4.size
                have hs4 : w3.heap.size + 1 ≤ w4.heap.size := by simpa using HG4.out.size
                refine ⟨j + 1, .slice a4 n4 c4, (by go_num), by omega, ?_, ((((HB3.out.trans (hB4.mono (by omega))).alloc (by omega) _).trans (hB5.mono (by omega))).setCell (Nat.le_refl _) _), ⟨by simp; omega, hp2, ?_, fun t ht => ?_⟩⟩
                · have h := HST.out
                  rw [htk, if_pos rfl] at h
                  rw [h]
                  exact HN3.out.put HG4.out HO4.out
                · rcases HA4.out with h | h
                  · rw [h]; exact hp3
                  · intro e
                    rw [h] at e
                    have e2 := Option.some.inj e
                    simp at e2
                    omega
                · rw [World.cell?_setCell_other (h := fun e => by have := congrArg Addr.block e; simp at this; omega)]
                  have h := World.cell?_of_block (a := ⟨P, t, none⟩) (HG4.out.block P (by simp; omega) (fun e => hp3 e.symm))
                  rw [h, World.cell?_alloc_lt _ _ _ (show P < w3.heap.size by omega)]
                  exact (hB4.cell (p := ⟨P, t, none⟩) hp1).trans (HP4.out t ht)
          · have hjN : j = N := by omega
            have hnl : ¬ (j : Int) < (N : Int) := by omega
            go_wp2_with fail
            go_roundw
            case measure => simp [intOf]; omega
            case rel =>
              refine ⟨i + 1, nv2, (by go_num), by omega, ?_, HB3.out⟩
              have h := HM2.out
              rw [hjN, ← HNN.out, List.take_length] at h
              rw [HNS.out]
              exact h
    · have hin : i = n := by omega
      have hnl : ¬ (i : Int) < (n : Int) := by omega
      have hnm := HNM.out
      rw [hin, ← HN.out, List.take_length] at hnm
      have hRR : R = l.filter fun f => !goneB (named l) f := HR.out.symm
      have hll : l.length ≤ 1099511627 := by have := HW.out; have := HN.out; omega
      have HL2 := Lib.hid (HL.out.old HB.out)
      cases a with
      | none =>
        have hl0 : l = [] := by
          obtain ⟨a', cap', e, h1, h2, h3, _⟩ := HL.out
          simp only [Value.slice.injEq] at e
          obtain ⟨rfl, _, _⟩ := e
          have := h3 rfl
          exact List.eq_nil_of_length_eq_zero (by omega)
        have hn0 : n = 0 := by rw [← HN.out, hl0]; rfl
        have hc0 : cap = 0 := by
          obtain ⟨a', cap', e, h1, h2, h3, _⟩ := HL.out
          simp only [Value.slice.injEq] at e
          obtain ⟨rfl, _, rfl⟩ := e
          exact h3 rfl
        subst hc0
        have hR0 : R = [] := by rw [hRR, hl0]; rfl
        have HR0 := Lib.hid hR0
        have HDN := Lib.hid (del_nil 27 #[.pointer (some ⟨w.heap.size, 0, none⟩)] wr)
        have HCN2 : Hid (Calls Tryd.prog 24 #[.slice none n 0] wr fun e w' => e = .returned (.slice none 0 0) ∧ wr = w') := by
          have h := clone_nil wr
          rw [hn0]; exact h
        clear hnm hRR hR0 hll hl0 hn0
        go_wp2_with (first
          | (go_at_call 24; (with_reducible refine HCN2.out.mono ?_); rintro e w2 ⟨rfl, rfl⟩)
          | (go_at_call 23; (with_reducible refine HDN.out.mono ?_); rintro e w3 ⟨rfl, rfl⟩))
        go_ret
        exact ⟨_, _, _, rfl, by rw [HR0.out]; exact Own.nil _ _ _ _, HB.out⟩
      | some x =>
        have HCL := Lib.hid (clone_some x n cap l wr HL2.out hll)
        have HDE : Hid (∀ (W2 : World) (b2 c2 : Nat), Below wr.heap.size wr W2 → Own encF W2 wr.heap.size 33 (.slice (some ⟨b2, 0, none⟩) n c2) l → Calls Tryd.prog 23 #[.slice (some ⟨b2, 0, none⟩) n c2, .func (.func 27) #[] #[.pointer (some ⟨w.heap.size, 0, none⟩)]] W2 fun e w' => ∃ n', e = .returned (.slice (some ⟨b2, 0, none⟩) n' c2) ∧ Own encF w' wr.heap.size 33 (.slice (some ⟨b2, 0, none⟩) n' c2) R ∧ Below wr.heap.size W2 w') := fun W2 b2 c2 hB2 hO2 => by
          have hnn := HN.out
          subst hnn
          refine (del_any (goneB (named l)) 27 _ (enters_of Tryd.func27 (by kernel_rfl) rfl) wr.heap.size b2 c2 l W2 hO2 (by have := HW.out; omega) hB2.size (fun W f hW => clean1_any (named l) w.heap.size nv f W (hnm.keep (hB2.trans hW)))).mono ?_
          rintro e w' ⟨n', rfl, _, hO, hB⟩
          rw [← hRR] at hO
          exact ⟨n', rfl, hO, hB⟩
        clear hnm hRR hll
        go_wp2_with (first
          | (go_at_call 24; (with_reducible refine HCL.out.mono ?_); rintro e w2 ⟨b2, c2, rfl, hO2, hB2⟩; have HO2 := Lib.hid hO2; clear hO2)
          | (go_at_call 23; (with_reducible refine (HDE.out _ _ _ hB2 HO2.out).mono ?_); rintro e w3 ⟨n3, rfl, hO3, hB3⟩; have HO3 := Lib.hid hO3; clear hO3))
        go_ret
        exact ⟨_, _, _, rfl, HO3.out.mono hsw, HB.out.trans ((hB2.trans hB3).mono hsw)⟩
end Go.Proofs.YtooplackonnemaaDoor.FieldsC
