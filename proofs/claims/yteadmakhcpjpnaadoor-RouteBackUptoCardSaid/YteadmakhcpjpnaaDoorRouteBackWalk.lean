/-
  RouteBack answers true.
  Conditions: the text's length; the cell of bytealg.MaxLen.
-/
import Derived.Test.YteadmakhcpjpnaaDoorParse
import Derived.Test.YteadmakhcpjpnaaDoorRouteBackP
import Derived.Test.YteadmakhcpjpnaaDoorSameR
import Derived.Test.YteadmakhcpjpnaaDoorRoutesArg
import Derived.Test.YteadmakhcpjpnaaDoorAfter
import Derived.Deep.QuietTactic
import Derived.BigQuiet
namespace Go.Proofs.YteadmakhcpjpnaaDoor.WalkRouteBack
open Go.RowKit RowsK RouteC SameC AfterL
set_option linter.unusedVariables false
set_option linter.unusedSimpArgs false

def litB : ByteArray := ⟨#[42, 32, 47, 97, 32, 111, 110, 101, 10, 104, 32, 47, 32, 116, 119, 111, 10]⟩
def litR : List RT := [⟨⟨#[]⟩, ⟨#[47, 97]⟩, ⟨#[111, 110, 101]⟩⟩, ⟨⟨#[104]⟩, ⟨#[47]⟩, ⟨#[116, 119, 111]⟩⟩]
theorem lit_check : checkE litR = 0 := by
  unfold checkE litR
  simp only [checkUpto, routeE, badR, sameR, List.length_cons, List.length_nil, List.getD_cons_zero, List.getD_cons_succ, List.take, List.any_cons, List.any_nil, ByteArray.toList_eq]
  decide
theorem lit_print : printL litR = litB.data.toList := by
  unfold printL litR printR litB
  simp [ByteArray.toList_eq]
theorem lit_parse : parseP litB.data.toList = ([⟨⟨#[]⟩, ⟨#[47, 97]⟩, ⟨#[111, 110, 101]⟩⟩, ⟨⟨#[104]⟩, ⟨#[47]⟩, ⟨#[116, 119, 111]⟩⟩], 0, 0) := by
  have h := parse_print lit_check
  rw [lit_print] at h
  exact h
theorem parse_is (t : ByteArray) (l : List RT) (ht : t.size < 4294967281) (hp : parseP t.data.toList = (l, 0, 0)) (w : World) (m : Int) (hm : w.cell? ⟨1, 0, none⟩ = some (.int .i64 m)) :
    Calls Tryd.prog 5 #[.string t] w fun e w' => ∃ v, e = .returned (.tuple #[v, .int .i64 0, .nilIface]) ∧ At encR w' v l ∧ Below w.heap.size w w' := by
  refine (parse_any t ht w m hm).mono ?_
  rintro e w' ⟨v, l', k, er, rfl, hq, hat, hB⟩
  rw [hp] at hq
  simp only [Prod.mk.injEq] at hq
  obtain ⟨rfl, rfl, rfl⟩ := hq
  exact ⟨v, rfl, hat, hB⟩
theorem parse_not (t : ByteArray) (ht : t.size < 4294967281) (hp : (parseP t.data.toList).2.2 ≠ 0) (w : World) (m : Int) (hm : w.cell? ⟨1, 0, none⟩ = some (.int .i64 m)) :
    Calls Tryd.prog 5 #[.string t] w fun e w' => ∃ v j k, e = .returned (.tuple #[v, .int .i64 j, .iface 46 (.int .i64 k)]) ∧ Below w.heap.size w w' := by
  refine (parse_any t ht w m hm).mono ?_
  rintro e w' ⟨v, l', k, er, rfl, hq, hat, hB⟩
  rw [← hq] at hp
  exact ⟨v, k, er, by unfold errV; rw [if_neg hp], hB⟩
theorem at_slice {w : World} {v : Value} {l : List RT} (h : At encR w v l) {i : Nat} (hi : i < l.length) : ∃ b off cap, v = .slice (some ⟨b, off, none⟩) l.length cap ∧ l.length ≤ cap ∧ cap ≤ 9223372036854775807 ∧ b < w.heap.size ∧
    ∀ k, k < l.length → w.cell? ⟨b, off + k * 3, none⟩ = some (.string (l.getD k default).host) ∧ w.cell? ⟨b, off + k * 3 + 1, none⟩ = some (.string (l.getD k default).path) ∧ w.cell? ⟨b, off + k * 3 + 2, none⟩ = some (.string (l.getD k default).dest) := by
  have h0 := h
  obtain ⟨a, cap, rfl, h1, h2, -, -⟩ := h
  obtain ⟨b, off, rfl, hb, hc⟩ := At.elem h0 i hi
  exact ⟨b, off, cap, rfl, h1, h2, hb, hc⟩
set_option maxRecDepth 100000 in
set_option maxHeartbeats 16000000 in
theorem walk (v0 : Value) (l : List RT) (text : ByteArray) (w : World) (hl : Args.RoutesAt w v0 l) (ht : text.size < 4294967281) (hmx : ∃ m, w.cell? ⟨1, 0, none⟩ = some (.int .i64 m)) :
    Calls Tryd.prog 3 #[v0, .string text] w fun e w' => e = .returned (.bool true) ∧ Below w.heap.size w w' := by
  obtain ⟨m, hm⟩ := hmx
  obtain ⟨hat, hsz⟩ := hl
  have HM : Hid (∀ W, Below w.heap.size w W → W.cell? ⟨1, 0, none⟩ = some (.int .i64 m)) := fun W hB => (hB.cell (p := ⟨1, 0, none⟩) (block_lt_of_cell hm)).trans hm
  have HAT := Lib.hid hat
  have HT := Lib.hid ht
  have H0 : Hid (∀ W, Below w.heap.size w W → Calls Tryd.prog 5 #[.string ⟨#[42, 32, 47, 97, 32, 111, 110, 101, 10, 104, 32, 47, 32, 116, 119, 111, 10]⟩] W fun e w' => ∃ v, e = .returned (.tuple #[v, .int .i64 0, .nilIface]) ∧ At encR w' v [⟨⟨#[]⟩, ⟨#[47, 97]⟩, ⟨#[111, 110, 101]⟩⟩, ⟨⟨#[104]⟩, ⟨#[47]⟩, ⟨#[116, 119, 111]⟩⟩] ∧ Below W.heap.size W w') := fun (W : World) (hB : Below w.heap.size w W) => parse_is litB _ (by decide) lit_parse W m (HM.out W hB)
  have HS := Lib.hid hsz
  obtain ⟨a, cap, rfl, hcap, hcap2, -, -⟩ := hat
  -- what any text is read as
  have HTX : Hid (((parseP text.data.toList).2.2 ≠ 0 ∧ ∀ W, Below w.heap.size w W → Calls Tryd.prog 5 #[.string text] W fun e w' => ∃ j k, (∃ a n c, e = .returned (.tuple #[.slice a n c, .int .i64 j, .iface 46 (.int .i64 k)])) ∧ Below W.heap.size W w') ∨
      (∃ lt, checkE lt = 0 ∧ printS lt = text ∧ ∀ W, Below w.heap.size w W → Calls Tryd.prog 5 #[.string text] W fun e w' => ∃ a n c, e = .returned (.tuple #[.slice a n c, .int .i64 0, .nilIface]) ∧ At encR w' (.slice a n c) lt ∧ Below W.heap.size W w')) := by
    by_cases hp : (parseP text.data.toList).2.2 = 0
    · right
      obtain ⟨lt, j, k, hq⟩ : ∃ lt j k, parseP text.data.toList = (lt, j, k) := ⟨_, _, _, rfl⟩
      have hk : k = 0 := by rw [hq] at hp; exact hp
      obtain ⟨g1, g2⟩ := parse_back hq hk
      have hj : j = 0 := by
        unfold parseP at hq
        simp only at hq
        split at hq
        · simp only [Prod.mk.injEq] at hq; exact hq.2.1.symm
        · rename_i h0
          simp only [Prod.mk.injEq] at hq
          exact absurd (hq.2.2.trans hk) h0
      subst hk
      subst hj
      refine ⟨lt, g1, ?_, fun W hB => ?_⟩
      · unfold printS; rw [g2]
      · refine (parse_is text lt HT.out hq W m (HM.out W hB)).mono ?_
        rintro e w' ⟨v, rfl, hat, hB⟩
        obtain ⟨a, c, rfl, -⟩ := id hat
        exact ⟨a, _, c, rfl, hat, hB⟩
    · left
      refine ⟨hp, fun W hB => ?_⟩
      refine (parse_any text HT.out W m (HM.out W hB)).mono ?_
      rintro e w' ⟨v, l', k, er, rfl, hq, hat, hB⟩
      rw [← hq] at hp
      obtain ⟨a, c, rfl, -⟩ := hat
      exact ⟨k, er, ⟨a, _, c, by unfold errV; rw [if_neg hp]⟩, hB⟩
  clear hm hsz ht
  by_cases hck : checkE l = 0
  · obtain ⟨h20, hbad⟩ := right_all hck
    have hpz : (printS l).size < 4294967281 := by
      have h1 := printL_len hbad
      unfold printS
      rw [size_mk]
      omega
    have HFO := Lib.hid (fun i (hi : i < l.length) => find_own hck hi)
    have HP1 := Lib.hid (fun (W : World) (hB : Below w.heap.size w W) => print_ok _ l W (HAT.out.old hB) hck)
    have HP2 := Lib.hid (fun (W : World) (hB : Below w.heap.size w W) => parse_is (printS l) l hpz (by unfold printS; exact parse_print hck) W m (HM.out W hB))
    have HFI := Lib.hid (fun (W : World) (hB : Below w.heap.size w W) (h p : ByteArray) => find_any _ l h p W (HAT.out.old hB) (fun r hr => (HS.out r hr).2.1))
    generalize printS l = R at HP1 HP2 hpz
    clear hpz hbad hck
    obtain ⟨n, hn⟩ : ∃ n, l.length = n := ⟨_, rfl⟩
    rw [hn] at hcap HP1 HFI HAT h20
    rw [hn]
    have HN := Lib.hid hn
    clear hn
    go_enter Tryd.func3, Tryd.ntmps3
    go_wp2_with (first
      | (go_at_call 5; (with_reducible refine (H0.out _ (Below.refl _ _)).mono ?_); rintro e w1 ⟨v1, rfl, hat1, hB1⟩; obtain ⟨b1, o1, c1, rfl, -, -, -, hc1⟩ := at_slice hat1 (i := 0) (by simp); have c10 := (hc1 0 (by simp)).1; have c12 := (hc1 1 (by simp)).2.2; simp at c10 c12; have HB1 := Lib.hid hB1; clear hat1 hB1 hc1)
      | (go_at_call 6; (with_reducible refine (HP1.out _ HB1.out).mono ?_); rintro e w2 ⟨rfl, hB2⟩; have HB2 := Lib.hid (HB1.out.trans (hB2.mono HB1.out.size)); clear hB2)
      | (go_at_call 5; (with_reducible refine (HP2.out _ HB2.out).mono ?_); rintro e w3 ⟨v3, rfl, hat3, hB3⟩; have HA3 := Lib.hid hat3; have HB3 := Lib.hid (HB2.out.trans (hB3.mono HB2.out.size)); clear hat3 hB3)
      | (go_at_call 7; (with_reducible refine (sameR_any l _ _ _ HA3.out (HAT.out.old HB3.out)).mono ?_); rintro e w4 ⟨rfl, n4, rfl⟩)
      | fail)
    have HB4 : Hid (Below w.heap.size w (w3.drewN n4)) := below_drewN HB3.out n4
    obtain ⟨wz, hwz⟩ : ∃ wz, w3.drewN n4 = wz := ⟨_, rfl⟩
    rw [hwz] at HB4 ⊢
    clear hwz
    go_loopw [14] (fun iv wr => ∃ k : Nat, iv = .int .i64 k ∧ k ≤ n ∧ Hid (Below w.heap.size w wr)) (fun iv _ => n - (intOf iv).toNat)
    case atStart => exact ⟨0, rfl, Nat.zero_le _, HB4⟩
    case round =>
      obtain ⟨k, rfl, hk, HB⟩ := hrel
      obtain ⟨wo, hwo⟩ : ∃ wo : World, wo = wr := ⟨_, rfl⟩
      subst hwo
      by_cases hlt : k < n
      · obtain ⟨b, off, cp, e, -, -, hb, hc⟩ := at_slice (by have h := HAT.out; rw [← HN.out] at h; exact h) (i := k) (by rw [HN.out]; exact hlt)
        simp only [Value.slice.injEq] at e
        obtain ⟨rfl, -, rfl⟩ := e
        obtain ⟨k2, hk2, hf, hs2⟩ := HFO.out k (by rw [HN.out]; exact hlt)
        rw [HN.out] at hk2
        have hgd : l[k]'(by rw [HN.out]; exact hlt) = l.getD k default := by simp [List.getD, List.getElem?_eq_getElem (show k < l.length by rw [HN.out]; exact hlt)]
        rw [hgd] at hf hs2
        have c0 := (HB.out.cell (p := ⟨b, off + k * 3, none⟩) hb).trans (hc k (by rw [HN.out]; exact hlt)).1
        have c1 := (HB.out.cell (p := ⟨b, off + k * 3 + 1, none⟩) hb).trans (hc k (by rw [HN.out]; exact hlt)).2.1
        have e1 := (HB.out.cell (p := ⟨b, off + k2 * 3 + 1, none⟩) hb).trans (hc k2 (by rw [HN.out]; exact hk2)).2.1
        have HFK : Hid (∀ W, Below w.heap.size w W → Calls Tryd.prog 8 #[.slice (some ⟨b, off, none⟩) n cap, .string (l.getD k default).host, .string (l.getD k default).path] W fun e w' => e = .returned (.tuple #[.int .i64 (k2 : Int), .nilIface]) ∧ Below W.heap.size W w') := fun W hB => by
          have h := HFI.out W hB (l.getD k default).host (l.getD k default).path
          rw [hf] at h
          exact h
        generalize l.getD k default = r at *
        generalize l.getD k2 default = r2 at *
        obtain ⟨rh, rp, rt⟩ := r
        obtain ⟨rh2, rp2, rt2⟩ := r2
        simp only at c0 c1 e1 HFK hs2
        have hq : ((rp2.size : Int) != (rp.size : Int)) = false := by rw [bne_eq_false_iff_eq]; omega
        have hi0 : (0 : Int) ≤ (k : Int) := by omega
        have hi1 : (k : Int) < (n : Int) := by omega
        have hj0 : (0 : Int) ≤ (k2 : Int) := by omega
        have hj1 : (k2 : Int) < (n : Int) := by omega
        have HS2 := Lib.hid hs2
        clear hc hf hgd hs2
        go_wp2_with fail
        have q0 : ∀ n : After wo, n.1.cell? ⟨b, off + k * 3, none⟩ = some (.string rh) := fun n => n.cell c0
        have q1 : ∀ n : After wo, n.1.cell? ⟨b, off + k * 3 + 1, none⟩ = some (.string rp) := fun n => n.cell c1
        refine wp_region_after wo (Below.refl _ _) (by kernel_rfl) (by kernel_rfl) ?_
        repeat (go_big_quiet_step (((go_at_call 8); refine After.call (HFK.out _ (HB.out.trans_below (Subtype.property _) (Nat.le_refl _))))))
        refine wpQuiet_nil ?_
        rintro w5 ⟨n5, rfl⟩
        obtain ⟨w5, hB5⟩ := n5
        simp only
        clear q0 q1 c0
        have HB6 := Lib.hid (HB.out.trans_below hB5 (Nat.le_refl _))
        have d1 := (hB5.cell (p := ⟨b, off + k * 3 + 1, none⟩) (block_lt_of_cell c1)).trans c1
        have d2 := (hB5.cell (p := ⟨b, off + k2 * 3 + 1, none⟩) (block_lt_of_cell e1)).trans e1
        clear hB5 c1 e1
        go_wp2_with fail
        have q0 : ∀ n : After w5, n.1.cell? ⟨b, off + k2 * 3 + 1, none⟩ = some (.string rp2) := fun n => n.cell d2
        have q1 : ∀ n : After w5, n.1.cell? ⟨b, off + k * 3 + 1, none⟩ = some (.string rp) := fun n => n.cell d1
        refine wp_region_after w5 (Below.refl _ _) (by kernel_rfl) (by kernel_rfl) ?_
        repeat (go_big_quiet_step (fail))
        refine wpQuiet_nil ?_
        rintro w6 ⟨n6, rfl⟩
        obtain ⟨w6, hB6⟩ := n6
        simp only
        clear q0 q1 d1 d2
        have HB7 := Lib.hid (HB6.out.trans_below hB6 (Nat.le_refl _))
        clear hB6
        go_wp2_with fail
        go_roundw
        case rel => exact ⟨k + 1, by go_num, by omega, HB7⟩
        case measure => simp [intOf]; omega
      · rcases HTX.out with ⟨-, hx⟩ | ⟨lt, hct, hpt, hx⟩
        · have HX := Lib.hid (hx wo HB.out)
          clear hx
          go_wp2_with (first
            | (go_at_call 5; (with_reducible refine HX.out.mono ?_); rintro e w7 ⟨j, kk, ⟨a7, n7, c7, rfl⟩, hB7⟩; have HB7 := Lib.hid (HB.out.trans_below hB7 (Nat.le_refl _)); clear hB7)
            | fail)
          go_ret
          exact ⟨rfl, HB7.out⟩
        · have HX := Lib.hid (hx wo HB.out)
          have HCT := Lib.hid hct
          have HPT := Lib.hid hpt
          clear hx hct hpt
          go_wp2_with (first
            | (go_at_call 5; (with_reducible refine HX.out.mono ?_); rintro e w7 ⟨a7, n7, c7, rfl, hat7, hB7⟩; have HB7 := Lib.hid (HB.out.trans_below hB7 (Nat.le_refl _)); have HA7 := Lib.hid hat7; clear hB7 hat7)
            | (go_at_call 6; (with_reducible refine (print_ok _ lt _ HA7.out HCT.out).mono ?_); rintro e w8 ⟨rfl, hB8⟩; rw [HPT.out]; have HB8 := Lib.hid (HB7.out.trans_below hB8 (Nat.le_refl _)); clear hB8)
            | fail)
          go_ret
          exact ⟨by simp, HB8.out⟩
  · have hpb := Lib.hid (fun (W : World) (hB : Below w.heap.size w W) => print_bad _ l W (HAT.out.old hB) hck)
    generalize checkE l = ck at hpb hck
    obtain ⟨n, hn⟩ : ∃ n, l.length = n := ⟨_, rfl⟩
    rw [hn] at hcap HAT hpb
    rw [hn]
    clear hn hck
    rcases HTX.out with ⟨-, hx⟩ | ⟨lt, hct, hpt, hx⟩
    · have HX := Lib.hid hx
      clear hx
      go_enter Tryd.func3, Tryd.ntmps3
      go_wp2_with (first
        | (go_at_call 5; (with_reducible refine (H0.out _ (Below.refl _ _)).mono ?_); rintro e w1 ⟨v1, rfl, hat1, hB1⟩; obtain ⟨b1, o1, c1, rfl, -, -, -, hc1⟩ := at_slice hat1 (i := 0) (by simp); have c10 := (hc1 0 (by simp)).1; have c12 := (hc1 1 (by simp)).2.2; simp at c10 c12; have HB1 := Lib.hid hB1; clear hat1 hB1 hc1)
        | (go_at_call 6; (with_reducible refine (hpb.out _ HB1.out).mono ?_); rintro e wo ⟨rfl, hB2⟩; have HB := Lib.hid (HB1.out.trans (hB2.mono HB1.out.size)); clear hB2)
        | (go_at_call 5; (with_reducible refine (HX.out _ HB.out).mono ?_); rintro e w7 ⟨j, kk, ⟨a7, n7, c7, rfl⟩, hB7⟩; have HB7 := Lib.hid (HB.out.trans_below hB7 (Nat.le_refl _)); clear hB7)
        | fail)
      go_ret
      exact ⟨rfl, HB7.out⟩
    · have HX := Lib.hid hx
      have HCT := Lib.hid hct
      have HPT := Lib.hid hpt
      clear hx hct hpt
      go_enter Tryd.func3, Tryd.ntmps3
      go_wp2_with (first
        | (go_at_call 5; (with_reducible refine (H0.out _ (Below.refl _ _)).mono ?_); rintro e w1 ⟨v1, rfl, hat1, hB1⟩; obtain ⟨b1, o1, c1, rfl, -, -, -, hc1⟩ := at_slice hat1 (i := 0) (by simp); have c10 := (hc1 0 (by simp)).1; have c12 := (hc1 1 (by simp)).2.2; simp at c10 c12; have HB1 := Lib.hid hB1; clear hat1 hB1 hc1)
        | (go_at_call 6; (with_reducible refine (hpb.out _ HB1.out).mono ?_); rintro e wo ⟨rfl, hB2⟩; have HB := Lib.hid (HB1.out.trans (hB2.mono HB1.out.size)); clear hB2)
        | (go_at_call 5; (with_reducible refine (HX.out _ HB.out).mono ?_); rintro e w7 ⟨a7, n7, c7, rfl, hat7, hB7⟩; have HB7 := Lib.hid (HB.out.trans_below hB7 (Nat.le_refl _)); have HA7 := Lib.hid hat7; clear hB7 hat7)
        | (go_at_call 6; (with_reducible refine (print_ok _ lt _ HA7.out HCT.out).mono ?_); rintro e w8 ⟨rfl, hB8⟩; rw [HPT.out]; have HB8 := Lib.hid (HB7.out.trans_below hB8 (Nat.le_refl _)); clear hB8)
        | fail)
      go_ret
      exact ⟨by simp, HB8.out⟩
end Go.Proofs.YteadmakhcpjpnaaDoor.WalkRouteBack
