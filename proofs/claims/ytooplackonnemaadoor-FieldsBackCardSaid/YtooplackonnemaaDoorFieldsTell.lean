/-
  fields.Tell over this seat's translation, exactly: a reply's fields.
  Conditions: where the data lie; bytealg.MaxLen's cell; the powers of ten.
-/
import Derived.Test.YtooplackonnemaaDoorFieldsList
import Derived.Test.YtooplackonnemaaDoorRound
import Derived.Test.YtooplackonnemaaDoorRowsClear
import Derived.Deep.RegionHeld3
import Derived.Lib.ItoaNum
import Derived.WalkSmall
namespace Go.Proofs.YtooplackonnemaaDoor.FieldsC
open Go.RowKit Go.Shelf RowsK RowsM FieldRows LineC LineM BA RoundL
set_option linter.unusedVariables false
set_option linter.unusedSimpArgs false

def Pow10 (w : World) : Prop := Lib.TabIs Tryd.prog w "internal/strconv.uint64pow10" .u64 Lib.pow10Tab
theorem Pow10.old {w w' : World} (h : Pow10 w) (hB : Below w.heap.size w w') : Pow10 w' := by
  unfold Pow10 Lib.TabIs at h ⊢
  have hg : ∃ g, Tryd.prog.globalNamed "internal/strconv.uint64pow10" = some g := by
    unfold World.var? at h
    cases e : Tryd.prog.globalNamed "internal/strconv.uint64pow10" with
    | none => rw [e] at h; cases h
    | some g => exact ⟨g, rfl⟩
  obtain ⟨g, hg⟩ := hg
  refine var?_below hB hg ?_ h
  unfold World.var? at h
  rw [hg] at h
  rcases Nat.lt_or_ge g w.heap.size with h' | h'
  · exact h'
  · simp [Array.getElem?_eq_none h'] at h
def itoaB (n : Int) : ByteArray := ⟨(Lib.itoa n).toArray⟩
theorem itoa_any (n : Int) (h0 : -9223372036854775808 ≤ n) (h1 : n ≤ 9223372036854775807) (w : World) (hp : Pow10 w) : Calls Tryd.prog 16 #[.int .i64 n] w fun e w' => e = .returned (.string (itoaB n)) ∧ Below w.heap.size w w' := by
  refine (Tryd.strconv_Itoa n h0 h1 w hp).mono ?_
  rintro e w' ⟨rfl, k, os, rfl⟩
  refine ⟨rfl, ⟨rfl, rfl, rfl, by simp [Go.Sort.grow, World.drewN], fun k hk => ?_⟩⟩
  exact Array.getElem?_append_left hk
def bareB (n : Int) : Bool := decide (n < 200) || n == 204 || n == 304
theorem bare_any (n : Int) (w : World) : Calls Tryd.prog 18 #[.int .i64 n] w fun e w' => e = .returned (.bool (bareB n)) ∧ w = w' := by
  have hr : bareB n = (decide (n < 200) || n == 204 || n == 304) := rfl
  obtain ⟨R, hR⟩ : ∃ R, bareB n = R := ⟨_, rfl⟩
  rw [hR] at hr ⊢
  rcases h1 : decide (n < 200) with _ | _ <;> rcases h2 : (n == 204) with _ | _ <;> rcases h3 : (n == 304) with _ | _ <;>
    (rw [h1, h2, h3] at hr; simp only [Bool.or_false, Bool.or_true, Bool.false_or, Bool.true_or] at hr; subst hr; go_enter Tryd.func18, Tryd.ntmps18; go_wp2_with fail; go_ret; exact ⟨rfl, rfl⟩)
theorem _root_.Go.Proofs.YtooplackonnemaaDoor.LineM.HeldQ.grown {w W W' : World} {cs : Array Value} {row : Option Nat} (h : HeldQ w W cs) (hg : W.grownBy W' row) (hr : ∀ k, row = some k → w.heap.size + 1 ≤ k) : HeldQ w W' cs :=
  ⟨h.bel.grown hg (by have := h.lt; omega) (fun k hk => by have := hr k hk; omega), by have h1 := hg.size; have h2 := h.lt; omega, fun i hi => (World.cell?_of_block (a := ⟨w.heap.size, i, none⟩) (hg.block w.heap.size h.lt (fun e => by have := hr _ e.symm; omega))).trans (h.cell i hi)⟩
def codeN : ByteArray := ⟨#[58, 99, 111, 100, 101]⟩
def lengthN : ByteArray := ⟨#[108, 101, 110, 103, 116, 104]⟩
def tellF (r : Rp) : List Fld := [(codeN, itoaB r.code)] ++ cleanL r.fields ++ (if bareB r.code then [] else [(lengthN, itoaB (r.body.length : Int))])
set_option maxRecDepth 100000 in
set_option maxHeartbeats 16000000 in
theorem tell_bad (r : Rp) (vf vb : Value) (w : World) (hf : At encF w vf r.fields) (hb : BytesAt w vb r.body) (hk : tellE r 0 ≠ 0) :
    Calls Tryd.prog 7 #[rpV r vf vb] w fun e w' => e = .returned (.tuple #[.slice none 0 0, .iface 52 (.int .i64 (tellE r 0))]) ∧ Below w.heap.size w w' := by
  have HCA := Lib.hid (fun (W : World) (hW : Below w.heap.size w W) => checkTell_any r vf vb 0 W (hf.old hW) (hb.below hW))
  have hB0 : ∀ o, Below w.heap.size w (w.alloc o) := fun o => (Below.refl _ _).alloc (Nat.le_refl _) _
  rw [errVk hk] at HCA
  obtain ⟨af, cf, rfl, -⟩ := hf
  obtain ⟨ab, cb, rfl, -⟩ := hb.open
  unfold rpV at *
  generalize tellE r 0 = k at *
  clear hk
  go_enter Tryd.func7, Tryd.ntmps7
  go_wp2_with (first
    | (go_at_call 17; (with_reducible refine (HCA.out _ (hB0 _)).mono ?_); rintro e w1 ⟨rfl, hB1⟩; have HB1 := Lib.hid hB1; clear hB1)
    | fail)
  go_ret2
  exact ⟨rfl, bstep (hB0 _) HB1.out⟩
set_option maxRecDepth 100000 in
set_option maxHeartbeats 16000000 in
theorem tell_ok (r : Rp) (vf vb : Value) (w : World) (m : Int) (hf : At encF w vf r.fields) (hb : BytesAt w vb r.body) (hk : tellE r 0 = 0) (hcd : 0 ≤ r.code ∧ r.code ≤ 1000) (hbl : r.body.length ≤ 8000) (hfl : r.fields.length ≤ 40) (hwt : weight r.fields < 1000000000) (hm : w.cell? ⟨2, 0, none⟩ = some (.int .i64 m)) (hp : Pow10 w) :
    Calls Tryd.prog 7 #[rpV r vf vb] w fun e w' => ∃ a n c, e = .returned (.tuple #[.slice a n c, .nilIface]) ∧ RowsK.Own encF w' w.heap.size 33 (.slice a n c) (tellF r) ∧ Below w.heap.size w w' := by
  have HCA := Lib.hid (fun (W : World) (hW : Below w.heap.size w W) => checkTell_any r vf vb 0 W (hf.old hW) (hb.below hW))
  have hB0 : Hid (∀ o, Below w.heap.size w (w.alloc o)) := fun o => (Below.refl _ _).alloc (Nat.le_refl _) _
  rw [hk] at HCA
  have hm2 : 2 < w.heap.size := block_lt_of_cell hm
  have HCL := Lib.hid (fun W (hB : Below w.heap.size w W) => clean_any vf r.fields W m (hf.old hB) hwt ((hB.cell (p := ⟨2, 0, none⟩) hm2).trans hm))
  have HIT := Lib.hid (fun W (hB : Below w.heap.size w W) => itoa_any r.code (by omega) (by omega) W (hp.old hB))
  have HIL := Lib.hid (fun W (hB : Below w.heap.size w W) => itoa_any (r.body.length : Int) (by omega) (by omega) W (hp.old hB))
  have HBA := Lib.hid (bare_any r.code)
  obtain ⟨af, cf, rfl, hcap, hcap2, -, -⟩ := hf
  obtain ⟨ab, cb, rfl, -⟩ := hb.open
  have hCl : (cleanL r.fields).length ≤ 40 := Nat.le_trans (List.length_filter_le _ _) hfl
  have HT0 : Hid (tellF r = [(codeN, itoaB r.code)] ++ cleanL r.fields ++ (if bareB r.code then [] else [(lengthN, itoaB (r.body.length : Int))])) := rfl
  obtain ⟨L, hL⟩ : ∃ L, tellF r = L := ⟨_, rfl⟩
  rw [hL] at HT0 ⊢
  unfold rpV at *
  generalize itoaB r.code = si at *
  generalize itoaB (r.body.length : Int) = sl at *
  generalize cleanL r.fields = cl at *
  generalize bareB r.code = bb at *
  obtain ⟨rc, rf, rb⟩ := r
  simp only at *
  generalize rb.length = lb at *
  obtain ⟨n, hn⟩ : ∃ n, rf.length = n := ⟨_, rfl⟩
  rw [hn] at hcap hfl HCA HCL ⊢
  change Hid (∀ W, Below w.heap.size w W → Calls Tryd.prog 17 #[.agg #[.int .i64 rc, .slice af n cf, .slice ab lb cb], .int .i64 0] W fun e w' => e = .returned .nilIface ∧ Below W.heap.size W w') at HCA
  have HS := Lib.hid (HeldQ.new w #[.int .i64 rc, .slice af n cf, .slice ab lb cb] 27)
  have HCLL := Lib.hid hCl
  clear hk hwt hm hn hL hp hCl
  go_enter Tryd.func7, Tryd.ntmps7
  go_upto_region 4 with (first
    | (go_at_call 17; (with_reducible refine (HCA.out _ (hB0.out _)).mono ?_); rintro e w1 ⟨rfl, hB1⟩; replace HS := Lib.hid (HS.out.step hB1); clear hB1)
    | fail)
  have hlt1 := HS.out.lt
  go_cut [5] from 11 to 19 (fun v5 wx => ∃ (a : Option Addr) (q c : Nat), v5 = .slice a q c ∧ Hid (q = ([(codeN, si)] ++ cl).length ∧ RowsK.Own encF wx (w.heap.size + 1) 33 (.slice a q c) ([(codeN, si)] ++ cl) ∧ HeldQ w wx #[.int .i64 rc, .slice af n cf, .slice ab lb cb]))
  case first =>
    have HSd : Hid (HeldQ w w1.drew #[.int .i64 rc, .slice af n cf, .slice ab lb cb]) := ⟨HS.out.bel.drew, HS.out.lt, HS.out.cell⟩
    refine wp_region_only (fun w' => HeldQ w w' #[.int .i64 rc, .slice af n cf, .slice ab lb cb]) (by kernel_rfl) HSd.out (fun hS => ?_)
    refine wpAnyH_take (i := 0) (v := ?_) rfl (by kernel_rfl) (by kernel_rfl) (by kernel_rfl) (fun _ _ _ h => h) (Or.inl ⟨by rfl, ?_⟩) (by assumption) ?_; rotate_left
    · intro w' hSw; (try dsimp only at hSw); have g0 := hSw.cell 0 (by simp); have g1 := hSw.cell 1 (by simp); have g2 := hSw.cell 2 (by simp); simp only [List.getElem?_toArray, List.getElem?_cons_zero, List.getElem?_cons_succ] at g0 g1 g2; go_simp; (try (with_reducible rfl)); done
    refine wpAnyH_take (i := 1) (v := ?_) rfl (by kernel_rfl) (by kernel_rfl) (by kernel_rfl) (fun _ _ _ h => h) (Or.inl ⟨by rfl, ?_⟩) (by assumption) ?_; rotate_left
    · intro w' hSw; (try dsimp only at hSw); have g0 := hSw.cell 0 (by simp); have g1 := hSw.cell 1 (by simp); have g2 := hSw.cell 2 (by simp); simp only [List.getElem?_toArray, List.getElem?_cons_zero, List.getElem?_cons_succ] at g0 g1 g2; go_simp; (try (with_reducible rfl)); done
    refine wpAnyH_take (i := 5) (v := ?_) rfl (by kernel_rfl) (by kernel_rfl) (by kernel_rfl) (fun _ _ _ h => h) (Or.inl ⟨by rfl, ?_⟩) (by assumption) ?_; rotate_left
    · intro w' hSw; (try dsimp only at hSw); have g0 := hSw.cell 0 (by simp); have g1 := hSw.cell 1 (by simp); have g2 := hSw.cell 2 (by simp); simp only [List.getElem?_toArray, List.getElem?_cons_zero, List.getElem?_cons_succ] at g0 g1 g2; go_simp; (try (with_reducible rfl)); done
    refine wpAnyH_take (i := 6) (v := ?_) rfl (by kernel_rfl) (by kernel_rfl) (by kernel_rfl) (fun _ _ _ h => h) (Or.inl ⟨by rfl, ?_⟩) (by assumption) ?_; rotate_left
    · intro w' hSw; (try dsimp only at hSw); have g0 := hSw.cell 0 (by simp); have g1 := hSw.cell 1 (by simp); have g2 := hSw.cell 2 (by simp); simp only [List.getElem?_toArray, List.getElem?_cons_zero, List.getElem?_cons_succ] at g0 g1 g2; go_simp; (try (with_reducible rfl)); done
    refine wpAnyH_ready (rs := [2]) (by kernel_rfl) (by simp) ?_
    refine AllReadyH.cons rfl (fun K hK => ?_) AllReadyH.nil
    go_simp
    refine (HIT.out _ HSd.out.bel).mono ?_
    rintro e wi1 ⟨rfl, hBi1⟩
    have HSi1 := Lib.hid (HSd.out.step hBi1)
    refine hK.out _ _ HSi1.out (fun hS => ?_)
    clear hK K
    refine wpAnyH_take (i := 3) (v := ?_) rfl (by kernel_rfl) (by kernel_rfl) (by kernel_rfl) (fun _ _ _ h => h) (Or.inl ⟨by rfl, ?_⟩) (by assumption) ?_; rotate_left
    · intro w' hSw; (try dsimp only at hSw); have g0 := hSw.cell 0 (by simp); have g1 := hSw.cell 1 (by simp); have g2 := hSw.cell 2 (by simp); simp only [List.getElem?_toArray, List.getElem?_cons_zero, List.getElem?_cons_succ] at g0 g1 g2; go_simp; (try (with_reducible rfl)); done
    refine wpAnyH_ready (rs := [4, 7]) (by kernel_rfl) (by simp) ?_
    refine AllReadyH.cons rfl (fun K hK => ?_) (AllReadyH.cons rfl (fun K hK => ?_) AllReadyH.nil)
    · go_simp
      have HSb2 : Hid (HeldQ w (wi1.alloc (.cells #[.string ⟨#[58, 99, 111, 100, 101]⟩, .string si] 33)) #[.int .i64 rc, .slice af n cf, .slice ab lb cb]) := HSi1.out.step ((Below.refl _ _).alloc (Nat.le_refl _) _)
      have HRb2 : Hid (RowsK.Own encF (wi1.alloc (.cells #[.string ⟨#[58, 99, 111, 100, 101]⟩, .string si] 33)) (w.heap.size + 1) 33 (.slice (some ⟨wi1.heap.size, 0, none⟩) 1 1) [(codeN, si)]) := RowsK.Own.lit (E := encF) (e := 33) wi1 _ [(codeN, si)] (by have := HSi1.out.lt; omega) (by simp) rfl
      refine hK.out _ _ HSb2.out (fun hS => ?_)
      clear hK K
      refine wpAnyH_ready (rs := [7]) (by kernel_rfl) (by simp) ?_
      refine AllReadyH.cons rfl (fun K hK => ?_) AllReadyH.nil
      go_simp
      refine (HCL.out _ HSb2.out.bel).mono ?_
      rintro e wc3 ⟨ca3, cn3, cc3, rfl, hOc3, hBc3⟩
      have HSc3 := Lib.hid (HSb2.out.step hBc3)
      have HAc3 := Lib.hid hOc3.at_
      have HRc3 := Lib.hid (HRb2.out.of_block fun k hk => hBc3.block k (HRb2.out.lt k hk).2)
      refine hK.out _ _ HSc3.out (fun hS => ?_)
      clear hK K
      refine wpAnyH_ready (rs := [8]) (by kernel_rfl) (by simp) ?_
      refine AllReadyH.cons rfl (fun K hK => ?_) AllReadyH.nil
      obtain ⟨v9, w9, hr9, hO9, hG9, -⟩ := RowsK.run_append_where elemF 22 (w.heap.size + 1) HRc3.out _ _ HAc3.out (by have := HCLL.out; simp; omega) (by have := HSc3.out.lt; omega)
      obtain ⟨a9, c9, hv9, -⟩ := hO9.slice
      subst hv9
      refine RowsM.step_append_run rfl _ _ 22 rfl _ _ rfl rfl hr9 ?_
      have HS9 : Hid (HeldQ w w9 #[.int .i64 rc, .slice af n cf, .slice ab lb cb]) := HSc3.out.grown hG9 (fun k hk => (HRc3.out.lt k hk).1)
      refine hK.out _ _ HS9.out (fun hS => ?_)
      clear hK K
      refine wpAnyH_take (i := 9) (v := ?_) rfl (by kernel_rfl) (by kernel_rfl) (by kernel_rfl) (fun _ _ _ h => h) (Or.inl ⟨by rfl, ?_⟩) (by assumption) ?_; rotate_left
      · intro w' hSw; (try dsimp only at hSw); have g0 := hSw.cell 0 (by simp); have g1 := hSw.cell 1 (by simp); have g2 := hSw.cell 2 (by simp); simp only [List.getElem?_toArray, List.getElem?_cons_zero, List.getElem?_cons_succ] at g0 g1 g2; go_simp; (try (with_reducible rfl)); done
      refine wpAnyH_done (by kernel_rfl) (Only.normal ?_) _
      go_wp2_with fail
      go_meet
      case rel => exact ⟨a9, _, c9, rfl, Lib.hid ⟨rfl, hO9, HS9.out⟩⟩
    · go_simp
      refine (HCL.out _ HSi1.out.bel).mono ?_
      rintro e wc5 ⟨ca5, cn5, cc5, rfl, hOc5, hBc5⟩
      have HSc5 := Lib.hid (HSi1.out.step hBc5)
      have HAc5 := Lib.hid hOc5.at_
      refine hK.out _ _ HSc5.out (fun hS => ?_)
      clear hK K
      refine wpAnyH_ready (rs := [4]) (by kernel_rfl) (by simp) ?_
      refine AllReadyH.cons rfl (fun K hK => ?_) AllReadyH.nil
      go_simp
      have HSb6 : Hid (HeldQ w (wc5.alloc (.cells #[.string ⟨#[58, 99, 111, 100, 101]⟩, .string si] 33)) #[.int .i64 rc, .slice af n cf, .slice ab lb cb]) := HSc5.out.step ((Below.refl _ _).alloc (Nat.le_refl _) _)
      have HRb6 : Hid (RowsK.Own encF (wc5.alloc (.cells #[.string ⟨#[58, 99, 111, 100, 101]⟩, .string si] 33)) (w.heap.size + 1) 33 (.slice (some ⟨wc5.heap.size, 0, none⟩) 1 1) [(codeN, si)]) := RowsK.Own.lit (E := encF) (e := 33) wc5 _ [(codeN, si)] (by have := HSc5.out.lt; omega) (by simp) rfl
      have HAb6 := Lib.hid (HAc5.out.old ((Below.refl _ _).alloc (Nat.le_refl _) (.cells #[.string ⟨#[58, 99, 111, 100, 101]⟩, .string si] 33)))
      refine hK.out _ _ HSb6.out (fun hS => ?_)
      clear hK K
      refine wpAnyH_ready (rs := [8]) (by kernel_rfl) (by simp) ?_
      refine AllReadyH.cons rfl (fun K hK => ?_) AllReadyH.nil
      obtain ⟨v9, w9, hr9, hO9, hG9, -⟩ := RowsK.run_append_where elemF 22 (w.heap.size + 1) HRb6.out _ _ HAb6.out (by have := HCLL.out; simp; omega) (by have := HSb6.out.lt; omega)
      obtain ⟨a9, c9, hv9, -⟩ := hO9.slice
      subst hv9
      refine RowsM.step_append_run rfl _ _ 22 rfl _ _ rfl rfl hr9 ?_
      have HS9 : Hid (HeldQ w w9 #[.int .i64 rc, .slice af n cf, .slice ab lb cb]) := HSb6.out.grown hG9 (fun k hk => (HRb6.out.lt k hk).1)
      refine hK.out _ _ HS9.out (fun hS => ?_)
      clear hK K
      refine wpAnyH_take (i := 9) (v := ?_) rfl (by kernel_rfl) (by kernel_rfl) (by kernel_rfl) (fun _ _ _ h => h) (Or.inl ⟨by rfl, ?_⟩) (by assumption) ?_; rotate_left
      · intro w' hSw; (try dsimp only at hSw); have g0 := hSw.cell 0 (by simp); have g1 := hSw.cell 1 (by simp); have g2 := hSw.cell 2 (by simp); simp only [List.getElem?_toArray, List.getElem?_cons_zero, List.getElem?_cons_succ] at g0 g1 g2; go_simp; (try (with_reducible rfl)); done
      refine wpAnyH_done (by kernel_rfl) (Only.normal ?_) _
      go_wp2_with fail
      go_meet
      case rel => exact ⟨a9, _, c9, rfl, Lib.hid ⟨rfl, hO9, HS9.out⟩⟩
  case rest =>
    obtain ⟨a, q, c, rfl, HR⟩ := hcut
    have hz := HR.out.2.2.lt
    have g0 := HR.out.2.2.cell 0 (by simp)
    have g1 := HR.out.2.2.cell 1 (by simp)
    have g2 := HR.out.2.2.cell 2 (by simp)
    simp only [List.getElem?_toArray, List.getElem?_cons_zero, List.getElem?_cons_succ] at g0 g1 g2
    have HB := Lib.hid HR.out.2.2.bel
    rcases bb with _ | _
    · have HIL2 := Lib.hid (HIL.out wc HB.out)
      go_wp2_with (first
        | (go_at_call 18; (with_reducible refine (HBA.out _).mono ?_); rintro e w5 ⟨rfl, rfl⟩)
        | (go_at_call 16; (with_reducible refine (HIL2.out).mono ?_); rintro e w6 ⟨rfl, hB6⟩; have hO6 := HR.out.2.1.of_block fun k hk => hB6.block k (HR.out.2.1.lt k hk).2; have HS6 := Lib.hid (HR.out.2.2.step hB6); have HB6 := Lib.hid hB6; have HOW : Hid (RowsK.Own encF (w6.alloc (.cells #[.string ⟨#[108, 101, 110, 103, 116, 104]⟩, .string sl] 33)) (w.heap.size + 1) 33 (.slice a q c) ([(codeN, si)] ++ cl)) := hO6.alloc _; have HAT2 : Hid (At encF (w6.alloc (.cells #[.string ⟨#[108, 101, 110, 103, 116, 104]⟩, .string sl] 33)) (.slice (some ⟨w6.heap.size, 0, none⟩) 1 1) [(lengthN, sl)]) := (RowsK.Own.lit (E := encF) (b := 0) (e := 33) w6 #[.string ⟨#[108, 101, 110, 103, 116, 104]⟩, .string sl] [(lengthN, sl)] (Nat.zero_le _) (by simp) rfl).at_; clear hO6 hB6)
        | (at_builtin; refine RowsK.wpList_append elemF rfl _ _ rfl (w.heap.size + 1) _ rfl HOW.out _ [(lengthN, sl)] rfl HAT2.out (by have := HCLL.out; simp; omega) (by have := HB6.out.size; simp; omega) ?_; intro v4 w4 hO4 hB4 hg4 hat4; obtain ⟨a4, c4, e4, -⟩ := hO4.slice; rw [show (([(codeN, si)] ++ cl) ++ [(lengthN, sl)]).length = q + 1 from (by have := HR.out.1; simp at this ⊢; omega)] at e4; subst e4; have HO4 := Lib.hid hO4; have HB4 := Lib.hid hB4; clear hO4 hB4 hg4 hat4)
        | fail)
      refine bodyPost_ret (results_tmp2 rfl _ _ _) rfl ⟨_, _, _, rfl, ?_, HS6.out.bel.trans (((Below.refl _ _).alloc (by have := HB6.out.size; omega) _).trans (HB4.out.mono (by omega)))⟩
      have hT := HT0.out
      simp only [Bool.false_eq_true, if_false] at hT
      rw [hT]
      exact RowsK.Own.mono HO4.out (Nat.le_succ _)
    · go_wp2_with (first
        | (go_at_call 18; (with_reducible refine (HBA.out _).mono ?_); rintro e w5 ⟨rfl, rfl⟩)
        | fail)
      refine bodyPost_ret (results_tmp2 rfl _ _ _) rfl ⟨_, _, _, rfl, ?_, HB.out⟩
      have hT := HT0.out
      simp only [if_true, List.append_nil] at hT
      rw [hT]
      exact HR.out.2.1.mono (by omega)
end Go.Proofs.YtooplackonnemaaDoor.FieldsC
