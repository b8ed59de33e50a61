/-
  fields.List over this seat's translation, exactly: a request's fields, its cookies one by one.
  Conditions: where the data lie; bytealg.MaxLen's cell.
-/
import Derived.Test.YtooplackonnemaaDoorCleanC
import Derived.Test.YtooplackonnemaaDoorLineCheck
import Derived.Test.YtooplackonnemaaDoorMsgAt
namespace Go.Proofs.YtooplackonnemaaDoor.FieldsC
open Go.RowKit Go.Shelf RowsK RowsM FieldRows LineC LineM BA
set_option linter.unusedVariables false
set_option linter.unusedSimpArgs false

def cookieB : ByteArray := ⟨#[99, 111, 111, 107, 105, 101]⟩
def isCookie (s : ByteArray) : Bool := s.toList == [99, 111, 111, 107, 105, 101]
def sepC : ByteArray := ⟨#[59, 32]⟩
def partsC (s : ByteArray) : List ByteArray := Lib.splitB sepC 0 (Lib.countB s sepC) s
theorem partsC_len (s : ByteArray) : (partsC s).length = Lib.countB s sepC + 1 := Lib.splitB_all sepC (by decide) 0 _ s rfl
theorem partsC_le (s : ByteArray) : (partsC s).length ≤ s.size + 1 := by
  rw [partsC_len]
  have := Lib.countB_le sepC (by decide) s.size s (Nat.le_refl _)
  omega
/-- A field as it goes over: cookies one by one. -/
def crumbs (f : Fld) : List Fld := if isCookie f.1 then (partsC f.2).map fun s => (cookieB, s) else [f]
def headF (r : Rq) : List Fld := [(⟨#[58, 109, 101, 116, 104, 111, 100]⟩, r.method), (⟨#[58, 112, 97, 116, 104]⟩, r.path), (⟨#[58, 104, 111, 115, 116]⟩, r.host)]
def listF (r : Rq) : List Fld := headF r ++ r.fields.flatMap crumbs
theorem crumbs_le (f : Fld) : (crumbs f).length ≤ f.2.size + 1 := by
  unfold crumbs
  split
  · rw [List.length_map]; exact partsC_le _
  · simp
theorem crumbs_all : ∀ l : List Fld, (l.flatMap crumbs).length ≤ weight l
  | [] => by simp [weight]
  | f :: l => by
    have h1 := crumbs_le f
    have h2 := crumbs_all l
    rw [List.flatMap_cons, List.length_append]
    simp only [weight, List.map_cons, List.sum_cons] at h2 ⊢
    omega
theorem crumbs_step {l : List Fld} {i : Nat} (hi : i < l.length) : (l.take (i + 1)).flatMap crumbs = (l.take i).flatMap crumbs ++ crumbs l[i] := by
  rw [List.take_succ_eq_append_getElem hi, List.flatMap_append]
  simp
theorem splitC_any (s : ByteArray) (W : World) (m : Int) (hm : W.cell? ⟨2, 0, none⟩ = some (.int .i64 m)) (hs : s.size < 4294967281) :
    Calls Tryd.prog 12 #[.string s, .string ⟨#[59, 32]⟩] W fun e w' => e = .returned (.slice (some ⟨W.heap.size, 0, none⟩) (partsC s).length (partsC s).length) ∧ (∀ j, j < (partsC s).length → w'.cell? ⟨W.heap.size, j, none⟩ = some (.string ((partsC s).getD j ByteArray.empty))) ∧ Below W.heap.size W w' ∧ W.heap.size < w'.heap.size := by
  refine (Tryd.strings_Split s sepC m W hs hm (by decide)).mono ?_
  rintro e w' ⟨rfl, rfl⟩
  refine ⟨by rw [partsC_len], fun j hj => ?_, (Below.refl _ _).alloc (Nat.le_refl _) _, by simp⟩
  rw [World.cell?_alloc_new]
  show ((partsC s).map Value.string).toArray[j]? = _
  rw [List.getElem?_toArray, List.getElem?_map, List.getElem?_eq_getElem hj, List.getD_eq_getElem?_getD, List.getElem?_eq_getElem hj]
  rfl
theorem own_formF {W : World} {b : Nat} {v : Value} {l : List Fld} (h : Own encF W b 33 v l) : ∃ a c, v = .slice a l.length c := by
  obtain ⟨a, c, e, -⟩ := h.slice
  exact ⟨a, c, e⟩
set_option maxRecDepth 100000 in
set_option maxHeartbeats 16000000 in
theorem list_bad (r : Rq) (vf vb : Value) (w : World) (hf : At encF w vf r.fields) (hb : BytesAt w vb r.body) (hk : askE r ≠ 0) :
    Calls Tryd.prog 4 #[rqV r vf vb] w fun e w' => e = .returned (.tuple #[.slice none 0 0, .iface 52 (.int .i64 (askE r))]) ∧ Below w.heap.size w w' := by
  have HCA := Lib.hid (fun (W : World) (hW : Below w.heap.size w W) => checkAsk_any r vf vb W (hf.old hW) (hb.below hW))
  have hB0 : ∀ o, Below w.heap.size w (w.alloc o) := fun o => (Below.refl _ _).alloc (Nat.le_refl _) _
  rw [errVk hk] at HCA
  obtain ⟨af, cf, rfl, -⟩ := hf
  obtain ⟨ab, cb, rfl, -⟩ := hb.open
  unfold rqV at *
  generalize askE r = k at *
  clear hk
  go_enter Tryd.func4, Tryd.ntmps4
  go_wp2_with (first
    | (go_at_call 11; (with_reducible refine (HCA.out _ (hB0 _)).mono ?_); rintro e w1 ⟨rfl, hB1⟩; have HB1 := Lib.hid hB1; clear hB1)
    | fail)
  go_ret2
  exact ⟨rfl, bstep (hB0 _) HB1.out⟩
set_option maxRecDepth 100000 in
set_option maxHeartbeats 16000000 in
theorem list_ok (r : Rq) (vf vb : Value) (w : World) (m : Int) (hf : At encF w vf r.fields) (hb : BytesAt w vb r.body) (hk : askE r = 0) (hwt : weight r.fields < 1000000000) (hm : w.cell? ⟨2, 0, none⟩ = some (.int .i64 m)) :
    Calls Tryd.prog 4 #[rqV r vf vb] w fun e w' => ∃ a n c, e = .returned (.tuple #[.slice a n c, .nilIface]) ∧ Own encF w' w.heap.size 33 (.slice a n c) (listF r) ∧ Below w.heap.size w w' := by
  have HCA := Lib.hid (fun (W : World) (hW : Below w.heap.size w W) => checkAsk_any r vf vb W (hf.old hW) (hb.below hW))
  have hB0 : Hid (∀ o, Below w.heap.size w (w.alloc o)) := fun o => (Below.refl _ _).alloc (Nat.le_refl _) _
  rw [hk] at HCA
  have hm2 : 2 < w.heap.size := block_lt_of_cell hm
  have HM := Lib.hid (fun W (hB : Below w.heap.size w W) => (hB.cell (p := ⟨2, 0, none⟩) hm2).trans hm)
  have HAT := Lib.hid hf
  obtain ⟨af, cf, rfl, hcap, hcap2, -, hel⟩ := hf
  have HEL := Lib.hid hel
  obtain ⟨ab, cb, rfl, -⟩ := hb.open
  have HW := Lib.hid hwt
  have hln := len_weight r.fields
  have HL0 : Hid (listF r = headF r ++ r.fields.flatMap crumbs) := rfl
  obtain ⟨L, hL⟩ : ∃ L, listF r = L := ⟨_, rfl⟩
  rw [hL] at HL0 ⊢
  unfold rqV headF at *
  obtain ⟨rm, rp, rh, rf, rb⟩ := r
  simp only at *
  obtain ⟨n, hn⟩ : ∃ n, rf.length = n := ⟨_, rfl⟩
  rw [hn] at hcap HCA HAT hln ⊢
  have HN := Lib.hid hn
  generalize rb.length = lb at *
  change Hid (∀ W, Below w.heap.size w W → Calls Tryd.prog 11 #[.agg #[.string rm, .string rp, .string rh, .slice af n cf, .slice ab lb cb]] W fun e w' => e = .returned .nilIface ∧ Below W.heap.size W w') at HCA
  have HS := Lib.hid (HeldQ.new w #[.string rm, .string rp, .string rh, .slice af n cf, .slice ab lb cb] 25)
  clear hk hwt hm hel hn hL
  have hn63 : (n : Int) ≤ 9223372036854775807 := by have := HW.out; omega
  go_enter Tryd.func4, Tryd.ntmps4
  go_upto_region 4 with (first
    | (go_at_call 11; (with_reducible refine (HCA.out _ (hB0.out _)).mono ?_); rintro e w1 ⟨rfl, hB1⟩; replace HS := Lib.hid (HS.out.step hB1); clear hB1; have g0 := HS.out.cell 0 (by simp); have g1 := HS.out.cell 1 (by simp); have g2 := HS.out.cell 2 (by simp); have g3 := HS.out.cell 3 (by simp); have g4 := HS.out.cell 4 (by simp); simp only [List.getElem?_toArray, List.getElem?_cons_zero, List.getElem?_cons_succ] at g0 g1 g2 g3 g4)
    | fail)
  have hlt1 := HS.out.lt
  obtain ⟨hd, hhd⟩ : ∃ hd : List Fld, [(⟨#[58, 109, 101, 116, 104, 111, 100]⟩, rm), (⟨#[58, 112, 97, 116, 104]⟩, rp), (⟨#[58, 104, 111, 115, 116]⟩, rh)] = hd := ⟨_, rfl⟩
  have HO0 : Hid (Own encF (w1.alloc (.cells #[.string ⟨#[58, 109, 101, 116, 104, 111, 100]⟩, .string rm, .string ⟨#[58, 112, 97, 116, 104]⟩, .string rp, .string ⟨#[58, 104, 111, 115, 116]⟩, .string rh] 33)) (w.heap.size + 1) 33 (.slice (some ⟨w1.heap.size, 0, none⟩) 3 3) hd) := by
    rw [← hhd]
    exact Own.lit (E := encF) (e := 33) w1 _ [(⟨#[58, 109, 101, 116, 104, 111, 100]⟩, rm), (⟨#[58, 112, 97, 116, 104]⟩, rp), (⟨#[58, 104, 111, 115, 116]⟩, rh)] (by omega) (by simp) rfl
  have hh3 : hd.length = 3 := by rw [← hhd]; rfl
  have HH3 := Lib.hid hh3
  rw [hhd] at HL0
  have HB1 := Lib.hid HS.out.bel
  clear hhd hh3
  go_wp2_with fail
  go_loopw [5, 28] (fun v5 iv wr => ∃ (i q : Nat) (a : Option Addr) (c : Nat), iv = .int .i64 i ∧ i ≤ n ∧ v5 = .slice a q c ∧ Hid (q = (hd ++ (rf.take i).flatMap crumbs).length ∧ Own encF wr (w.heap.size + 1) 33 (.slice a q c) (hd ++ (rf.take i).flatMap crumbs) ∧ Below w.heap.size w wr ∧ w.heap.size < wr.heap.size)) (fun _ iv _ => n - (intOf iv).toNat)
  case atStart =>
    refine ⟨0, 3, _, _, rfl, by omega, rfl, Lib.hid ⟨?_, ?_, HB1.out.alloc (by omega) _, by simp; omega⟩⟩
    · simp [HH3.out]
    · rw [show hd ++ (rf.take 0).flatMap crumbs = hd from by simp]; exact HO0.out
  case round =>
    obtain ⟨i, q, a, c, rfl, hi, rfl, HR⟩ := hrel
    obtain ⟨wo, hwo⟩ : ∃ wo : World, wo = wr := ⟨_, rfl⟩
    subst hwo
    by_cases hlt : i < n
    · obtain ⟨b, off, rfl, hb, hc⟩ := HEL.out i (by rw [HN.out]; exact hlt)
      have hBo := HR.out.2.2.1
      have hzo := HR.out.2.2.2
      have c0 : wo.cell? ⟨b, off + i * 2, none⟩ = some (.string (rf[i]'(by rw [HN.out]; exact hlt)).1) := (hBo.cell (p := ⟨b, off + i * 2, none⟩) hb).trans (hc 0 (by decide))
      have c1 : wo.cell? ⟨b, off + i * 2 + 1, none⟩ = some (.string (rf[i]'(by rw [HN.out]; exact hlt)).2) := (hBo.cell (p := ⟨b, off + i * 2 + 1, none⟩) hb).trans (hc 1 (by decide))
      have hst := crumbs_step (l := rf) (i := i) (by rw [HN.out]; exact hlt)
      have hsz := weight_mem (List.getElem_mem (l := rf) (n := i) (by rw [HN.out]; exact hlt))
      have hcl := crumbs_le (rf[i]'(by rw [HN.out]; exact hlt))
      clear hc
      obtain ⟨xa, xb, hx⟩ : ∃ xa xb, rf[i]'(by rw [HN.out]; exact hlt) = (xa, xb) := ⟨_, _, rfl⟩
      rw [hx] at c0 c1 hst hsz hcl
      simp only at c0 c1 hsz hcl
      have hszx : xb.size < 1000000000 := by have := HW.out; omega
      have hql : q < 1000000004 := by
        have h1 := HR.out.1
        have h2 := crumbs_all (rf.take i)
        have h3 := weight_take rf i
        have h4 := HW.out
        rw [List.length_append, HH3.out] at h1
        omega
      have HST := Lib.hid hst
      have hi0 : (0 : Int) ≤ (i : Int) := by omega
      have hi1 : (i : Int) < (n : Int) := by omega
      have HBO := Lib.hid hBo
      clear hst hsz hx hBo
      rcases hcn : isCookie xa with _ | _
      · have hne : (xa.toList == [99, 111, 111, 107, 105, 101]) = false := hcn
        have hcr : (rf.take (i + 1)).flatMap crumbs = (rf.take i).flatMap crumbs ++ [(xa, xb)] := by
          rw [HST.out]; unfold crumbs; rw [hcn, if_neg (by simp)]
        have HCR := Lib.hid hcr
        have HOW : Hid (Own encF ((wo.alloc (.cells #[.string xa, .string xb] 33)).alloc (.cells #[.string xa, .string xb] 33)) (w.heap.size + 1) 33 (.slice a q c) (hd ++ (rf.take i).flatMap crumbs)) := (HR.out.2.1.alloc _).alloc _
        have HAT2 : Hid (At encF ((wo.alloc (.cells #[.string xa, .string xb] 33)).alloc (.cells #[.string xa, .string xb] 33)) (.slice (some ⟨wo.heap.size + 1, 0, none⟩) 1 1) [(xa, xb)]) := by
          have h := (Own.lit (E := encF) (b := 0) (e := 33) (wo.alloc (.cells #[.string xa, .string xb] 33)) #[.string xa, .string xb] [(xa, xb)] (Nat.zero_le _) (by simp) rfl).at_
          rw [World.size_alloc] at h
          exact h
        clear hcr hcn
        go_wp2_with (first
          | (at_builtin; refine RowsK.wpList_append elemF rfl _ _ rfl (w.heap.size + 1) _ rfl HOW.out _ [(xa, xb)] rfl HAT2.out (by have := HR.out.1; simp at this ⊢; omega) (by simp; omega) ?_; intro v4 w4 hO4 hB4 hg4 hat4; obtain ⟨a4, c4, e4, -⟩ := hO4.slice; rw [show ((hd ++ (rf.take i).flatMap crumbs) ++ [(xa, xb)]).length = q + 1 from (by have := HR.out.1; simp at this ⊢; omega)] at e4; subst e4; have HO4 := Lib.hid hO4; have HB4 := Lib.hid hB4; clear hO4 hB4 hg4 hat4)
          | fail)
        go_roundw
        case rel =>
          refine ⟨i + 1, q + 1, a4, c4, by go_num, by omega, rfl, Lib.hid ⟨?_, ?_, ?_, ?_⟩⟩
          · rw [HCR.out]; have := HR.out.1; simp at this ⊢; omega
          · rw [HCR.out, ← List.append_assoc]; exact HO4.out
          · exact (HBO.out.alloc (by omega) _).trans ((((Below.refl _ _).alloc (by simp; omega) _)).trans (HB4.out.mono (by omega)))
          · have h1 := HB4.out.size; simp at h1; omega
        case measure => simp [intOf]; omega
      · have hne : (xa.toList == [99, 111, 111, 107, 105, 101]) = true := hcn
        have HSP := Lib.hid (splitC_any xb (wo.alloc (.cells #[.string xa, .string xb] 33)) m (HM.out _ (HBO.out.alloc (by omega) _)) (by omega))
        have hple := partsC_le xb
        obtain ⟨ps, hps⟩ : ∃ ps, partsC xb = ps := ⟨_, rfl⟩
        have hcr : (rf.take (i + 1)).flatMap crumbs = (rf.take i).flatMap crumbs ++ ps.map fun s => (cookieB, s) := by
          rw [HST.out]; unfold crumbs; rw [hcn, if_pos rfl, hps]
        rw [hps] at HSP hple
        obtain ⟨acc, hacc⟩ : ∃ acc, hd ++ (rf.take i).flatMap crumbs = acc := ⟨_, rfl⟩
        have HCR : Hid (hd ++ (rf.take (i + 1)).flatMap crumbs = acc ++ ps.map fun s => (cookieB, s)) := by show _ = _; rw [hcr, ← hacc, List.append_assoc]
        rw [hacc] at HR
        obtain ⟨N, hN⟩ : ∃ N, ps.length = N := ⟨_, rfl⟩
        rw [hN] at HSP hple
        have HNN := Lib.hid hN
        have hN63 : (N : Int) ≤ 9223372036854775807 := by omega
        obtain ⟨P, hP⟩ : ∃ P, (wo.alloc (.cells #[.string xa, .string xb] 33)).heap.size = P := ⟨_, rfl⟩
        rw [hP] at HSP
        have hPw : P = wo.heap.size + 1 := by rw [← hP]; simp
        have HPW := Lib.hid hPw
        clear hps hacc hcn HST hN hcr hP hPw
        go_wp2_with (first
          | (go_at_call 12; (with_reducible refine HSP.out.mono ?_); rintro e w2 ⟨rfl, hP, hB2, hs2⟩; have HP2 := Lib.hid hP; have HB2 := Lib.hid hB2; clear hP hB2)
          | fail)
        go_loopw [5, 43] (fun v5 jv wr => ∃ (j q2 : Nat) (a2 : Option Addr) (c2 : Nat), jv = .int .i64 j ∧ j ≤ N ∧ v5 = .slice a2 q2 c2 ∧ Hid (q2 = (acc ++ (ps.take j).map fun s => (cookieB, s)).length ∧ Own encF wr (w.heap.size + 1) 33 (.slice a2 q2 c2) (acc ++ (ps.take j).map fun s => (cookieB, s)) ∧ Below w.heap.size w wr ∧ P < wr.heap.size ∧ w.heap.size < P ∧ (Value.slice a2 q2 c2).ownBlock ≠ some P ∧ ∀ j, j < N → wr.cell? ⟨P, j, none⟩ = some (.string (ps.getD j ByteArray.empty)))) (fun _ jv _ => N - (intOf jv).toNat)
        case atStart =>
          refine ⟨0, q, a, c, rfl, by omega, rfl, Lib.hid ⟨?_, ?_, ?_, by omega, by have := HPW.out; omega, fun e => by have h1 := (HR.out.2.1.lt P e).2; have h2 := HPW.out; omega, HP2.out⟩⟩
          · simpa using HR.out.1
          · rw [show acc ++ (ps.take 0).map (fun s => (cookieB, s)) = acc from by simp]
            exact (HR.out.2.1.alloc (.cells #[.string xa, .string xb] 33)).of_block fun k hk => HB2.out.block k (by have h1 := (HR.out.2.1.lt k hk).2; have h2 := HPW.out; omega)
          · exact (HBO.out.alloc (by omega) _).trans (HB2.out.mono (by have := HPW.out; omega))
        case round =>
          obtain ⟨j, q2, a2, c2, rfl, hj, rfl, HQ⟩ := hrel
          obtain ⟨wp, hwp⟩ : ∃ wp : World, wp = wr := ⟨_, rfl⟩
          subst hwp
          by_cases hjl : j < N
          · have cp := HQ.out.2.2.2.2.2.2 j hjl
            have hpz := HQ.out.2.2.2.1
            have hwz := HQ.out.2.2.2.2.1
            have hst : (ps.take (j + 1)).map (fun s => (cookieB, s)) = (ps.take j).map (fun s => (cookieB, s)) ++ [(cookieB, ps.getD j ByteArray.empty)] := by
              rw [List.take_succ_eq_append_getElem (by rw [HNN.out]; exact hjl), List.map_append, List.getD_eq_getElem?_getD, List.getElem?_eq_getElem (by rw [HNN.out]; exact hjl)]
              rfl
            have HST := Lib.hid hst
            generalize ps.getD j ByteArray.empty = s at cp HST
            have hq2 : q2 < 3000000000 := by
              have h1 := HQ.out.1
              have h2 := HR.out.1
              rw [List.length_append, List.length_map, List.length_take, ← h2] at h1
              omega
            have hj0 : (0 : Int) ≤ (j : Int) := by omega
            have hj1 : (j : Int) < (N : Int) := by omega
            have HOW : Hid (Own encF (wp.alloc (.cells #[.string ⟨#[99, 111, 111, 107, 105, 101]⟩, .string s] 33)) (w.heap.size + 1) 33 (.slice a2 q2 c2) (acc ++ (ps.take j).map fun s => (cookieB, s))) := HQ.out.2.1.alloc _
            have HAT2 : Hid (At encF (wp.alloc (.cells #[.string ⟨#[99, 111, 111, 107, 105, 101]⟩, .string s] 33)) (.slice (some ⟨wp.heap.size, 0, none⟩) 1 1) [(cookieB, s)]) := (Own.lit (E := encF) (b := 0) (e := 33) wp #[.string ⟨#[99, 111, 111, 107, 105, 101]⟩, .string s] [(cookieB, s)] (Nat.zero_le _) (by simp) rfl).at_
            clear hst
            go_wp2_with (first
              | (at_builtin; refine RowsK.wpList_append elemF rfl _ _ rfl (w.heap.size + 1) _ rfl HOW.out _ [(cookieB, s)] rfl HAT2.out (by have := HQ.out.1; simp at this ⊢; omega) (by simp; omega) ?_; intro v4 w4 hO4 hB4 hg4 hat4; obtain ⟨a4, c4, e4, -⟩ := hO4.slice; rw [show ((acc ++ (ps.take j).map fun s => (cookieB, s)) ++ [(cookieB, s)]).length = q2 + 1 from (by have := HQ.out.1; simp at this ⊢; omega)] at e4; subst e4; have HO4 := Lib.hid hO4; have HB4 := Lib.hid hB4; have HG4 := Lib.hid hg4; have HA4 := Lib.hid hat4; clear hO4 hB4 hg4 hat4)
              | fail)
            go_roundw
            case rel =>
              have hz4 := HG4.out.size
              simp at hz4
              refine ⟨j + 1, q2 + 1, a4, c4, by go_num, by omega, rfl, Lib.hid ⟨?_, ?_, ?_, by omega, hwz, ?_, fun u hu => ?_⟩⟩
              · rw [HST.out]; have := HQ.out.1; simp at this ⊢; omega
              · rw [HST.out, ← List.append_assoc]; exact HO4.out
              · exact HQ.out.2.2.1.trans (((Below.refl _ _).alloc (by omega) _).trans (HB4.out.mono (by omega)))
              · intro e
                rcases HA4.out with h | h
                · exact HQ.out.2.2.2.2.2.1 (h.symm.trans e)
                · rw [e] at h
                  have := Option.some.inj h
                  simp at this
                  omega
              · refine (World.cell?_of_block (a := ⟨P, u, none⟩) ((HG4.out.block P (by simp; omega) fun e => HQ.out.2.2.2.2.2.1 e.symm).trans (Below.heap_alloc _ _ _ hpz))).trans (HQ.out.2.2.2.2.2.2 u hu)
            case measure => simp [intOf]; omega
          · obtain rfl : j = N := by omega
            go_wp2_with fail
            go_roundw
            case rel =>
              refine ⟨i + 1, q2, a2, c2, by go_num, by omega, rfl, Lib.hid ⟨?_, ?_, HQ.out.2.2.1, by have h1 := HQ.out.2.2.2.1; have h2 := HQ.out.2.2.2.2.1; omega⟩⟩
              · rw [HCR.out]
                have h := HQ.out.1
                rwa [List.take_of_length_le (by rw [HNN.out]; exact Nat.le_refl _)] at h
              · rw [HCR.out]
                have h := HQ.out.2.1
                rwa [List.take_of_length_le (by rw [HNN.out]; exact Nat.le_refl _)] at h
            case measure => simp [intOf]; omega
    · obtain rfl : i = n := by omega
      go_wp2_with fail
      refine bodyPost_ret (results_tmp2 rfl _ _ _) rfl ⟨_, _, _, rfl, ?_, HR.out.2.2.1⟩
      rw [HL0.out]
      have h := HR.out.2.1
      rw [List.take_of_length_le (by rw [HN.out]; exact Nat.le_refl _)] at h
      exact h.mono (by omega)
end Go.Proofs.YtooplackonnemaaDoor.FieldsC
