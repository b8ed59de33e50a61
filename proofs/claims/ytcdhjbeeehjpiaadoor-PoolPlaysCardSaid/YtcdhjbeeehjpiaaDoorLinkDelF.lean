/-
  slices.IndexFunc and slices.DeleteFunc of links over this seat's translation, where the test may write what it captured.
  Conditions: the test's contract, by the number of those that it was asked of.
-/
import Derived.Test.YtcdhjbeeehjpiaaDoorPool
import Derived.Shelf.Abstract
import Derived.Shelf.SlGeneric
namespace Go.Proofs.YtcdhjbeeehjpiaaDoor.PoolC
open Go.RowKit Go.Shelf MapsL ModL RowsK RowsM Back
set_option linter.unusedSimpArgs false
set_option linter.unusedVariables false

theorem dr_getD {ys l : List Link} {j : Nat} (h : ys.drop j = l.drop j) : ys.getD j default = l.getD j default := by
  have := congrArg (fun z => z[0]?) h
  rw [List.getElem?_drop, List.getElem?_drop, Nat.add_zero] at this
  rw [List.getD_eq_getElem?_getD, List.getD_eq_getElem?_getD, this]
theorem dr_more {ys l : List Link} {j : Nat} (h : ys.drop j = l.drop j) : ys.drop (j + 1) = l.drop (j + 1) := by
  rw [← List.drop_drop, ← List.drop_drop, h]
theorem fi_one (p : Link → Bool) (x : Link) : [x].filter (fun y => !p y) = if p x then [] else [x] := by
  cases h : p x <;> simp [h]
theorem tk_step {p : Link → Bool} {ys l : List Link} {i j : Nat} (hj : j < l.length) (h : ys.take i = (l.take j).filter fun x => !p x) : ((l.take (j + 1)).filter fun x => !p x) = ys.take i ++ (if p (l.getD j default) then [] else [l.getD j default]) := by
  rw [List.take_succ_eq_append_getElem hj, List.filter_append, h, fi_one, List.getD_eq_getElem?_getD, List.getElem?_eq_getElem hj]; rfl
theorem tk_put {ys : List Link} {i : Nat} (hi : i < ys.length) (x : Link) : (ys.set i x).take (i + 1) = ys.take i ++ [x] := by
  rw [List.take_succ_eq_append_getElem (by rw [List.length_set]; exact hi), List.getElem_set_self, List.take_set_of_le (Nat.le_refl i)]
theorem dr_put {ys : List Link} {i j : Nat} (hi : i < j) (x : Link) : (ys.set i x).drop j = ys.drop j := List.drop_set_of_lt hi
theorem fi_none {p : Link → Bool} : ∀ {l : List Link}, (∀ x ∈ l, p x = false) → l.filter (fun x => !p x) = l := fun h => List.filter_eq_self.2 fun x hx => by rw [h x hx]; rfl
/-- A whole link put into an owned row. -/
theorem put_link {w : World} {base b n c i : Nat} {ys : List Link} (h : RowsK.Own encL w base 82 (.slice (some ⟨b, 0, none⟩) n c) ys) (hn : ys.length = n) (hi : i < n) (x : Link) :
    RowsK.Own encL (((w.setCell ⟨b, i * 3, none⟩ (.int .i64 x.id)).setCell ⟨b, i * 3 + 1, none⟩ (.int .i64 x.at_)).setCell ⟨b, i * 3 + 2, none⟩ (.string x.to)) base 82 (.slice (some ⟨b, 0, none⟩) n c) (ys.set i x) := by
  have h1 := own_store h i 0 (by omega) (by decide) (.int .i64 x.id) ⟨x.id, ys[i].at_, ys[i].to⟩ rfl
  have h2 := own_store h1 i 1 (by rw [List.length_set]; omega) (by decide) (.int .i64 x.at_) ⟨x.id, x.at_, ys[i].to⟩ (by rw [List.getElem_set_self]; rfl)
  rw [List.set_set] at h2
  have h3 := own_store h2 i 2 (by rw [List.length_set]; omega) (by decide) (.string x.to) x (by rw [List.getElem_set_self]; rfl)
  rw [List.set_set] at h3
  exact h3
/-- The world stays but for the row's block, and new ones. -/
abbrev ModB (b : Nat) := Mod (fun k => k = b)
theorem modB3 (b : Nat) (w : World) (i j k : Nat) (u v x : Value) : ModB b w (((w.setCell ⟨b, i, none⟩ u).setCell ⟨b, j, none⟩ v).setCell ⟨b, k, none⟩ x) :=
  (((Mod.refl (fun k => k = b) w).setCell (p := ⟨b, i, none⟩) (fun _ => rfl) u).setCell (p := ⟨b, j, none⟩) (fun _ => rfl) v).setCell (p := ⟨b, k, none⟩) (fun _ => rfl) x
set_option maxRecDepth 100000 in
set_option maxHeartbeats 4000000 in
/-- slices.IndexFunc: up to the first that the test takes. -/
theorem idx_run (p : Link → Bool) (g : Nat) (lb : Array Value) (eg : ∀ args w, (callFunc g args).run Tryd.prog w = .ok (.enter g args) w) (base b n c : Nat) (l : List Link) (w : World) (h : RowsK.Own encL w base 82 (.slice (some ⟨b, 0, none⟩) n c) l) (hn : l.length = n)
    (hbig : n < 1000000000) (J : Nat → World → Prop) (hJ : ∀ i W W', J i W → ModB b W W' → J i W')
    (hp : ∀ i, i < n → ∀ W, J i W → Calls Tryd.prog g (#[.agg (encL.enc (l.getD i default)).toArray] ++ lb) W fun e w' => e = .returned (.bool (p (l.getD i default))) ∧ J (i + 1) w' ∧ w'.heap[b]? = W.heap[b]? ∧ W.heap.size ≤ w'.heap.size) (h0 : J 0 w) :
    Calls Tryd.prog 52 #[.slice (some ⟨b, 0, none⟩) n c, .func (.func g) #[] lb] w fun e w' => w'.heap[b]? = w.heap[b]? ∧ w.heap.size ≤ w'.heap.size ∧
      (((∀ x ∈ l, p x = false) ∧ e = .returned (.int .i64 (-1)) ∧ J n w') ∨ (∃ k : Nat, k < n ∧ ((k : Int) == -1) = false ∧ ((l.take (k + 1)).filter fun x => !p x) = l.take k ∧ e = .returned (.int .i64 (k : Nat)) ∧ J (k + 1) w')) := by
  have HO := Lib.hid h
  have HN := Lib.hid hn
  have HP := Lib.hid hp
  have HJ := Lib.hid hJ
  have H0 := Lib.hid h0
  clear h hn hp hJ h0
  go_enter Tryd.func52, Tryd.ntmps52
  go_wp2_with fail
  go_loopw [8] (fun iv wr => ∃ i : Nat, iv = .int .i64 i ∧ i ≤ n ∧ Hid (J i wr) ∧ Hid (∀ x ∈ l.take i, p x = false) ∧ Hid (wr.heap[b]? = w.heap[b]? ∧ w.heap.size ≤ wr.heap.size)) (fun iv _ => n - (intOf iv).toNat)
  case atStart => exact ⟨0, rfl, by omega, H0, fun x hx => by simp at hx, rfl, Nat.le_refl _⟩
  case round =>
    obtain ⟨i, rfl, hi, HJi, HF, HB⟩ := hrel
    by_cases hlt : i < n
    · have hOr : RowsK.Own encL wr base 82 (.slice (some ⟨b, 0, none⟩) n c) l := HO.out.of_block (fun k hk => by cases hk; exact HB.out.1)
      obtain ⟨_, g2, e2, _, _, d0, d1, d2⟩ := link_cells hOr hlt
      obtain rfl : b = g2 := by cases e2; rfl
      have hpx := HP.out i hlt _ HJi.out
      have hil : i < l.length := by rw [HN.out]; exact hlt
      have hst : l.take (i + 1) = l.take i ++ [l.getD i default] := by rw [List.take_succ_eq_append_getElem hil, List.getD_eq_getElem?_getD, List.getElem?_eq_getElem hil]; rfl
      obtain ⟨⟨xi, xa, xt⟩, hxx⟩ : ∃ y, l.getD i default = y := ⟨_, rfl⟩
      rw [hxx] at d0 d1 d2 hpx hst
      simp only at d0 d1 d2
      have HPX : Hid (Calls Tryd.prog g (#[.agg #[.int .i64 xi, .int .i64 xa, .string xt]] ++ lb) wr fun e w' => e = .returned (.bool (p ⟨xi, xa, xt⟩)) ∧ J (i + 1) w' ∧ w'.heap[b]? = wr.heap[b]? ∧ wr.heap.size ≤ w'.heap.size) := hpx
      have HST := Lib.hid hst
      clear hpx hst hxx hOr e2
      have hi0 : (0 : Int) ≤ (i : Int) := by omega
      have hi1 : (i : Int) < (n : Int) := by omega
      cases hq : p ⟨xi, xa, xt⟩ with
      | true =>
        rw [hq] at HPX
        have HQ := Lib.hid hq
        clear hq
        go_wp2_with (go_at_fn g; (with_reducible refine HPX.out.mono ?_); rintro e w2 ⟨rfl, hJ2, hb2, hs2⟩; have HJ2 := Lib.hid hJ2; have HB2 := Lib.hid (And.intro hb2 hs2); clear hJ2 hb2 hs2)
        go_ret
        refine ⟨HB2.out.1.trans HB.out.1, Nat.le_trans HB.out.2 HB2.out.2, .inr ⟨i, hlt, beq_eq_false_iff_ne.2 (by omega), ?_, rfl, HJ2.out⟩⟩
        rw [HST.out, List.filter_append, fi_one, HQ.out, fi_none HF.out]; simp
      | false =>
        rw [hq] at HPX
        have HQ := Lib.hid hq
        clear hq
        go_wp2_with (go_at_fn g; (with_reducible refine HPX.out.mono ?_); rintro e w2 ⟨rfl, hJ2, hb2, hs2⟩; have HJ2 := Lib.hid hJ2; have HB2 := Lib.hid (And.intro hb2 hs2); clear hJ2 hb2 hs2)
        go_roundw
        case measure => simp [intOf]; omega
        case rel =>
          refine ⟨i + 1, (by go_num), by omega, HJ2, ?_, HB2.out.1.trans HB.out.1, Nat.le_trans HB.out.2 HB2.out.2⟩
          intro x hx
          rw [HST.out] at hx
          rcases List.mem_append.1 hx with h | h
          · exact HF.out x h
          · obtain rfl := List.mem_singleton.1 h; exact HQ.out
    · obtain rfl : n = i := by omega
      have hN : ¬ ((n : Int) < (n : Int)) := by omega
      go_wp2_with fail
      go_ret
      refine ⟨HB.out.1, HB.out.2, .inl ⟨fun x hx => HF.out x ?_, rfl, HJi.out⟩⟩
      rw [← HN.out, List.take_length]; exact hx
set_option maxRecDepth 100000 in
set_option maxHeartbeats 8000000 in
/-- slices.DeleteFunc: what the test does not take stays, in order. -/
theorem delf_any (p : Link → Bool) (g : Nat) (lb : Array Value) (eg : ∀ args w, (callFunc g args).run Tryd.prog w = .ok (.enter g args) w) (base b n c : Nat) (l : List Link) (w : World) (h : RowsK.Own encL w base 82 (.slice (some ⟨b, 0, none⟩) n c) l) (hn : l.length = n)
    (hbig : n < 1000000000) (J : Nat → World → Prop) (T : World → Nat → Prop) (hJ : ∀ i W W', J i W → ModB b W W' → J i W') (hT1 : ∀ i W, J i W → ¬ T W b) (hT2 : ∀ i W o, J i W → ¬ T (W.alloc o) W.heap.size)
    (hp : ∀ i, i < n → ∀ W, J i W → Calls Tryd.prog g (#[.agg (encL.enc (l.getD i default)).toArray] ++ lb) W fun e w' => e = .returned (.bool (p (l.getD i default))) ∧ J (i + 1) w' ∧ Mod (T W) W w') (h0 : J 0 w) :
    Calls Tryd.prog 30 #[.slice (some ⟨b, 0, none⟩) n c, .func (.func g) #[] lb] w fun e w' => ∃ n', e = .returned (.slice (some ⟨b, 0, none⟩) n' c) ∧ RowsK.Own encL w' base 82 (.slice (some ⟨b, 0, none⟩) n' c) (l.filter fun x => !p x) ∧ J n w' := by
  have hbb0 := (h.lt b rfl).2
  have HI := Lib.hid (idx_run p g lb eg base b n c l w h hn hbig (fun i W => J i W ∧ b < W.heap.size) (fun i W W' h1 h2 => ⟨hJ i W W' h1.1 h2, Nat.lt_of_lt_of_le h1.2 h2.size⟩) (fun i hi W h1 => (hp i hi W h1.1).mono fun e w' h => ⟨h.1, ⟨h.2.1, Nat.lt_of_lt_of_le h1.2 h.2.2.size⟩, h.2.2.block b h1.2 (hT1 i W h1.1), h.2.2.size⟩) ⟨h0, hbb0⟩)
  have HT1 := Lib.hid hT1
  have HT2 := Lib.hid hT2
  have HO := Lib.hid h
  have HN := Lib.hid hn
  have HP := Lib.hid hp
  have HJ := Lib.hid hJ
  have hbb := h.lt b rfl
  have hnc : n ≤ c := by
    obtain ⟨a', c', e, h1, _⟩ := h.slice
    simp only [Value.slice.injEq] at e
    obtain ⟨_, e1, rfl⟩ := e
    omega
  clear h hn hp hJ h0 hT1 hT2
  go_enter Tryd.func30, Tryd.ntmps30
  go_wp2_with (go_at_call 52; (with_reducible refine HI.out.mono ?_); rintro e w1 ⟨hb1, hs1, (⟨hno, rfl, hJ1, _⟩ | ⟨k, hk, hkk, hf, rfl, hJ1, _⟩)⟩ <;> (have HJ1 := Lib.hid hJ1; have HB1 := Lib.hid (And.intro hb1 hs1); clear hJ1 hb1 hs1))
  · go_ret
    exact ⟨n, rfl, by rw [fi_none hno]; exact HO.out.of_block (fun k hk => by cases hk; exact HB1.out.1), HJ1.out⟩
  · have HK0 := Lib.hid hk
    have HF := Lib.hid hf
    clear hf
    clear hkk hk
    go_loopw [5, 6] (fun iv jv wr => ∃ (i j : Nat) (ys : List Link), iv = .int .i64 i ∧ jv = .int .i64 j ∧ i < j ∧ j ≤ n ∧ Hid (ys.length = n) ∧ Hid (RowsK.Own encL wr base 82 (.slice (some ⟨b, 0, none⟩) n c) ys) ∧ Hid (ys.take i = (l.take j).filter fun x => !p x) ∧ Hid (ys.drop j = l.drop j) ∧ Hid (J j wr)) (fun _ jv _ => n - (intOf jv).toNat)
    case atStart => exact ⟨k, k + 1, l, rfl, (by go_num), by omega, HK0.out, HN, HO.out.of_block (fun k hk => by cases hk; exact HB1.out.1), HF.out.symm, rfl, HJ1⟩
    case round =>
      obtain ⟨i, j, ys, rfl, rfl, hij, hj, HY, HW, HT, HD, HJr⟩ := hrel
      clear HI
      by_cases hlt : j < n
      · obtain ⟨_, g2, e2, _, hgs, d0, d1, d2⟩ := link_cells HW.out hlt
        obtain rfl : b = g2 := by cases e2; rfl
        obtain ⟨_, g3, e3, _, _, o0, o1, o2⟩ := link_cells HW.out (show i < n by omega)
        obtain rfl : b = g3 := by cases e3; rfl
        have hx := dr_getD HD.out
        have hst := tk_step (p := p) (by rw [HN.out]; exact hlt) HT.out
        have hdr := dr_more HD.out
        rw [hx] at d0 d1 d2
        generalize (ys.getD i default).id = u0 at o0
        generalize (ys.getD i default).at_ = u1 at o1
        generalize (ys.getD i default).to = u2 at o2
        have hpx := HP.out j hlt
        obtain ⟨⟨xi, xa, xt⟩, hxx⟩ : ∃ y, l.getD j default = y := ⟨_, rfl⟩
        rw [hxx] at d0 d1 d2 hst hpx
        have HPX : Hid (∀ (W : World), J j W → Calls Tryd.prog g (#[.agg #[.int .i64 xi, .int .i64 xa, .string xt]] ++ lb) W fun e w' => e = .returned (.bool (p ⟨xi, xa, xt⟩)) ∧ J (j + 1) w' ∧ Mod (T W) W w') := hpx
        have HST := Lib.hid hst
        have HDR := Lib.hid hdr
        clear hst hdr hpx hx hxx e2 e3
        simp only at d0 d1 d2
        have hi0 : (0 : Int) ≤ (i : Int) := by omega
        have hi1 : (i : Int) < (n : Int) := by omega
        have hj0 : (0 : Int) ≤ (j : Int) := by omega
        have hj1 : (j : Int) < (n : Int) := by omega
        have hfr := own_frozen HW.out
        have HJa := Lib.hid (HJ.out j wr (wr.alloc (.cells #[.int .i64 xi, .int .i64 xa, .string xt] 82)) HJr.out ((Mod.refl _ wr).alloc _))
        have hnT1 := HT1.out j _ HJa.out
        have hnT2 := HT2.out j wr (.cells #[.int .i64 xi, .int .i64 xa, .string xt] 82) HJr.out
        have HD0 : Hid (∀ w2 : World, Mod (T (wr.alloc (.cells #[.int .i64 xi, .int .i64 xa, .string xt] 82))) (wr.alloc (.cells #[.int .i64 xi, .int .i64 xa, .string xt] 82)) w2 → RowsK.Own encL w2 base 82 (.slice (some ⟨b, 0, none⟩) n c) ys ∧ w2.cell? ⟨b, i * 3, none⟩ = some (.int .i64 u0) ∧ w2.cell? ⟨b, i * 3 + 1, none⟩ = some (.int .i64 u1) ∧ w2.cell? ⟨b, i * 3 + 2, none⟩ = some (.string u2) ∧ (∀ i, w2.frozen? ⟨b, i, none⟩ = false) ∧
            w2.cell? ⟨wr.heap.size, 0, none⟩ = some (.int .i64 xi) ∧ w2.cell? ⟨wr.heap.size, 1, none⟩ = some (.int .i64 xa) ∧ w2.cell? ⟨wr.heap.size, 2, none⟩ = some (.string xt)) := fun w2 hM2 => by
          have hb3 : w2.heap[b]? = wr.heap[b]? := (hM2.block b (by simp; omega) hnT1).trans (Below.heap_alloc _ _ _ hgs)
          have hn3 := hM2.block wr.heap.size (by simp) hnT2
          have hO2 : RowsK.Own encL w2 base 82 (.slice (some ⟨b, 0, none⟩) n c) ys := HW.out.of_block (fun k hk => by cases hk; exact hb3)
          exact ⟨hO2, (World.cell?_of_block (a := ⟨b, i * 3, none⟩) hb3).trans o0, (World.cell?_of_block (a := ⟨b, i * 3 + 1, none⟩) hb3).trans o1, (World.cell?_of_block (a := ⟨b, i * 3 + 2, none⟩) hb3).trans o2, own_frozen hO2,
            (World.cell?_of_block (a := ⟨wr.heap.size, 0, none⟩) hn3).trans (World.cell?_alloc_new _ _ _ _), (World.cell?_of_block (a := ⟨wr.heap.size, 1, none⟩) hn3).trans (World.cell?_alloc_new _ _ _ _), (World.cell?_of_block (a := ⟨wr.heap.size, 2, none⟩) hn3).trans (World.cell?_alloc_new _ _ _ _)⟩
        clear hnT1 hnT2
        cases hq : p ⟨xi, xa, xt⟩ with
        | true =>
          rw [hq] at HPX HST
          clear hq
          go_wp2_with (go_at_fn g; (with_reducible refine (HPX.out _ HJa.out).mono ?_); rintro e w2 ⟨rfl, hJ2, hM2⟩; obtain ⟨hO2, _⟩ := HD0.out w2 hM2; have HO2 := Lib.hid hO2; have HJ2 := Lib.hid hJ2; clear hJ2 hM2 hO2)
          go_roundw
          case measure => simp [intOf]; omega
          case rel => exact ⟨i, j + 1, ys, rfl, (by go_num), by omega, by omega, HY, HO2, (HST.out.trans (List.append_nil _)).symm, HDR.out, HJ2⟩
        | false =>
          rw [hq] at HPX HST
          clear hq
          have hws : wr.heap.size < (wr.alloc (.cells #[.int .i64 xi, .int .i64 xa, .string xt] 82)).heap.size := by simp
          go_wp2_with (go_at_fn g; (with_reducible refine (HPX.out _ HJa.out).mono ?_); rintro e w2 ⟨rfl, hJ2, hM2⟩; obtain ⟨hO2, n0, n1, n2, hfr2, m0, m1, m2⟩ := HD0.out w2 hM2; have HO2 := Lib.hid hO2; have HJ2 := Lib.hid hJ2; clear hJ2 hM2 hO2)
          go_roundw
          case measure => simp [intOf]; omega
          case rel =>
            refine ⟨i + 1, j + 1, ys.set i ⟨xi, xa, xt⟩, (by go_num), (by go_num), by omega, by omega, (by rw [List.length_set]; exact HY.out), put_link HO2.out HY.out (by omega) ⟨xi, xa, xt⟩, ?_, ?_, HJ.out _ _ _ HJ2.out (modB3 b w2 _ _ _ _ _ _)⟩
            · rw [tk_put (by rw [HY.out]; omega)]
              exact HST.out.symm
            · rw [dr_put (by omega)]
              exact HDR.out
      · obtain rfl : n = j := by omega
        obtain ⟨w3, hcl, hO3, hG3⟩ := run_clear_tail Tryd.underlying74 zeroL rfl (by decide) (HW.out.cut i (by rw [HY.out]; omega) (by simp)) (by rw [List.length_take, HY.out]; omega) (n - i) (by omega) (some ⟨b, i * 3, none⟩) (c - i) (fun _ => rfl)
        have hi0 : (0 : Int) ≤ (i : Int) := by omega
        have hi1 : (i : Int) ≤ (n : Int) := by omega
        have hN : ¬ ((n : Int) < (n : Int)) := by omega
        have hi2 : (i : Int) ≤ (c : Int) := by omega
        have hi3 : ¬ (c = i) := by omega
        have HO3 := Lib.hid hO3
        have HG3 := Lib.hid hG3
        clear hO3 hG3
        go_wp2_with fail
        go_ret
        have e1 : l.take n = l := by rw [← HN.out]; exact List.take_length
        have e2 : (l.filter fun x => !p x) = ys.take i := by rw [HT.out, e1]
        rw [e2]
        exact ⟨_, rfl, HO3.out, HJ.out _ _ _ HJr.out ((Mod.refl _ wr).grown HG3.out (fun k e _ => (Option.some.inj e).symm))⟩
/-- Of a nil slice nothing is to be deleted. -/
theorem idxf_nil (g : Nat) (lb : Array Value) (w : World) : Calls Tryd.prog 52 #[.slice none 0 0, .func (.func g) #[] lb] w fun e w' => e = .returned (.int .i64 (-1)) ∧ w = w' := by
  go_enter Tryd.func52, Tryd.ntmps52
  go_wp2_with fail
  go_loopw [8] (fun iv wr => iv = .int .i64 0 ∧ w = wr) (fun _ _ => 0)
  case atStart => exact ⟨rfl, rfl⟩
  case round =>
    obtain ⟨rfl, rfl⟩ := hrel
    go_wp2_with fail
    go_ret
    exact ⟨rfl, rfl⟩
theorem delf_nil (g : Nat) (lb : Array Value) (w : World) : Calls Tryd.prog 30 #[.slice none 0 0, .func (.func g) #[] lb] w fun e w' => e = .returned (.slice none 0 0) ∧ w = w' := by
  have HI := Lib.hid (idxf_nil g lb w)
  go_enter Tryd.func30, Tryd.ntmps30
  go_wp2_with (go_at_call 52; (with_reducible refine HI.out.mono ?_); rintro e w1 ⟨rfl, rfl⟩)
  go_ret
  exact ⟨rfl, rfl⟩
end Go.Proofs.YtcdhjbeeehjpiaaDoor.PoolC
