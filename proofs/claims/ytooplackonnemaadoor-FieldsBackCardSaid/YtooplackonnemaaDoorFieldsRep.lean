/-
  fields.Reply over this seat's translation: fields that say a reply are that reply.
  Conditions: where the data lie; the powers of ten.
-/
import Derived.Test.YtooplackonnemaaDoorFieldsTell
import Derived.Test.YtooplackonnemaaDoorSlicesB
import Derived.Test.YtooplackonnemaaDoorAfter
import Derived.Test.YtooplackonnemaaDoorSplitJoin
import Derived.Lib.AtoiErrMem
import Derived.Deep.QuietTactic
import Derived.BigQuiet
namespace Go.Proofs.YtooplackonnemaaDoor.FieldsC
open Go.RowKit Go.Shelf RowsK RowsM FieldRows LineC LineM BA RoundL AfterL
set_option linter.unusedVariables false
set_option linter.unusedSimpArgs false

def colonB (s : ByteArray) : Bool := Lib.hasPrefix s.data.toList [58]
theorem rep1_any (f : Fld) (W : World) : Calls Tryd.prog 20 (#[.agg (encF.enc f).toArray] ++ #[]) W fun e w' => e = .returned (.bool (colonB f.1)) ∧ Below W.heap.size W w' := by
  obtain ⟨a, b⟩ := f
  show Calls Tryd.prog 20 #[.agg #[.string a, .string b]] W _
  have HH : Hid (∀ w, Calls Tryd.prog 21 #[.string a, .string ⟨#[58]⟩] w fun e w' => e = .returned (.bool (colonB a)) ∧ w' = w) := fun w => Tryd.strings_HasPrefix a ⟨#[58]⟩ w
  simp only
  generalize colonB a = q at *
  go_enter Tryd.func20, Tryd.ntmps20
  go_wp2_with (go_at_call 21; (with_reducible refine (HH.out _).mono ?_); rintro e w1 ⟨rfl, rfl⟩)
  go_ret
  exact ⟨rfl, (Below.refl _ _).alloc (Nat.le_refl _) _⟩
theorem rep2_any (f : Fld) (W : World) : Calls Tryd.prog 25 (#[.agg (encF.enc f).toArray] ++ #[]) W fun e w' => e = .returned (.bool (isLength f.1)) ∧ Below W.heap.size W w' := by
  obtain ⟨a, b⟩ := f
  show Calls Tryd.prog 25 #[.agg #[.string a, .string b]] W _
  unfold isLength
  simp only
  go_enter Tryd.func25, Tryd.ntmps25
  go_wp2_with fail
  go_ret
  exact ⟨rfl, (Below.refl _ _).alloc (Nat.le_refl _) _⟩
theorem cfF_any (b off n c : Nat) (l : List Fld) (w : World) (h : At encF w (.slice (some ⟨b, off, none⟩) n c) l) (hb : b < w.heap.size) :
    Calls Tryd.prog 19 #[.slice (some ⟨b, off, none⟩) n c, .func (.func 20) #[] #[]] w fun e w' => e = .returned (.bool (l.any fun f => colonB f.1)) ∧ Below w.heap.size w w' := by
  have eg : ∀ args w, (callFunc 20 args).run Tryd.prog w = .ok (.enter 20 args) w := enters_of Tryd.func20 (by kernel_rfl) rfl
  have hp : PredBelow Tryd.prog 20 #[] (fun x => .agg (encF.enc x).toArray) (fun f : Fld => colonB f.1) w := fun W x hW =>
    (rep1_any x W).mono fun e w' h => ⟨h.1, hW.trans (h.2.mono hW.size)⟩
  obtain ⟨a', cap', e, h1, h2, -, hel⟩ := h
  simp only [Value.slice.injEq] at e
  obtain ⟨rfl, rfl, rfl⟩ := e
  have hr := AnyQ.slices_ContainsFunc Tryd.cfFields 2 (fun w => Tryd.isAgg33 w) (fun w => Tryd.sizeOf33 w) encF.enc encF.len (fun f : Fld => colonB f.1) 20 _ eg b off l.length c l w hp (Nat.le_refl _) (by omega) hb (fun i hi j v hv => by
    have hj : j < 2 := by have := (List.getElem?_eq_some_iff.1 hv).1; rwa [encF.len] at this
    obtain ⟨b', off', e', -, hc⟩ := hel i hi
    simp only [Option.some.injEq, Addr.mk.injEq, and_true] at e'
    obtain ⟨rfl, rfl⟩ := e'
    rw [Nat.add_assoc, show i * 2 + j = i * encF.k + j from rfl, hc j hj, ← hv, getElem!_pos l i hi])
  rw [List.take_length] at hr
  exact hr
set_option maxRecDepth 100000 in
/-- All but the first. -/
theorem tail_run (b off n c : Nat) (f : Fld) (l : List Fld) (w : World) (h : At encF w (.slice (some ⟨b, off, none⟩) n c) (f :: l)) : ∃ o, (∀ W, (Instr.slice 22 (.slice (some ⟨b, off, none⟩) n c) (some (.int .i64 1)) none none).run Tryd.prog W = .ok (.slice (some ⟨b, o, none⟩) l.length (c - 1)) W) ∧ At encF w (.slice (some ⟨b, o, none⟩) l.length (c - 1)) l := by
  obtain ⟨a', cap', e, h1, h2, -, hel⟩ := h
  simp only [Value.slice.injEq] at e
  obtain ⟨rfl, rfl, rfl⟩ := e
  have hu : Tryd.prog.underlying 22 = some (.slice (Tryd.prog.elem 22)) := Tryd.underlying22
  have hs : ∀ W, (sizeOf (Tryd.prog.elem 22)).run Tryd.prog W = .ok 2 W := fun W => by kernel_rfl
  have hln : (f :: l).length = l.length + 1 := rfl
  rw [hln] at h1 ⊢
  by_cases hc : c = 1
  · refine ⟨off, fun W => ?_, ⟨some ⟨b, off, none⟩, c - 1, rfl, by omega, by omega, (fun e => by cases e), fun i hi => by omega⟩⟩
    rw [run_slice_l (P := Tryd.prog) W 22 (some ⟨b, off, none⟩) (l.length + 1) c hu .i64 1 (by omega) (by omega), hs]
    subst hc
    have : l.length = 0 := by omega
    simp [Result.andThen, sliced, this]
  · refine ⟨off + 2, fun W => ?_, ⟨some ⟨b, off + 2, none⟩, c - 1, rfl, by omega, by omega, (fun e => by cases e), fun i hi => ?_⟩⟩
    · rw [run_slice_l (P := Tryd.prog) W 22 (some ⟨b, off, none⟩) (l.length + 1) c hu .i64 1 (by omega) (by omega), hs]
      have hc2 : ¬ (c - 1 = 0) := by omega
      simp [Result.andThen, sliced, Addr.add, hc]
    · obtain ⟨b', off', e', hb', hcc⟩ := hel (i + 1) (by rw [hln]; omega)
      simp only [Option.some.injEq, Addr.mk.injEq, and_true] at e'
      obtain ⟨rfl, rfl⟩ := e'
      refine ⟨b, off + 2, rfl, hb', fun j hj => ?_⟩
      have := hcc j hj
      rw [show off + ((i + 1) * encF.k + j) = off + 2 + (i * encF.k + j) from by show off + ((i + 1) * 2 + j) = off + 2 + (i * 2 + j); omega] at this
      rw [this]
      rfl
theorem code_atoi (n : Int) (h : 100 ≤ n ∧ n ≤ 599) : Lib.atoiAll (itoaB n).data.toList = .ok n := by
  show Lib.atoiAll (Lib.itoa n) = _
  obtain ⟨m, rfl⟩ := Int.eq_ofNat_of_zero_le (show 0 ≤ n by omega)
  have e : Lib.itoa (m : Int) = Lib.decDigits m := by simp [Lib.itoa]
  rw [e]
  obtain ⟨c, r, hcr⟩ : ∃ c r, Lib.decDigits m = c :: r := by
    cases hd : Lib.decDigits m with
    | nil => exact absurd hd (LogP.digits_ne m)
    | cons c r => exact ⟨c, r, rfl⟩
  have hc := LogP.digits_digit m c (by rw [hcr]; simp)
  have hp := LogP.parse_digits m (by omega) []
  rw [List.append_nil, hcr] at hp
  rw [hcr, Lib.atoiAll_plain c r (by omega) (by omega)]
  unfold Lib.parseMag
  rw [if_neg (by simp), hp]
  simp only [Lib.parseUint10, Lib.signless]
  rw [if_neg (by omega)]
theorem code_len (n : Int) (h : 100 ≤ n ∧ n ≤ 599) : (itoaB n).size ≤ 3 := by
  rw [size_list]
  show (Lib.itoa n).length ≤ 3
  obtain ⟨m, rfl⟩ := Int.eq_ofNat_of_zero_le (show 0 ≤ n by omega)
  rw [show Lib.itoa (m : Int) = Lib.decDigits m by simp [Lib.itoa]]
  exact LogP.digits_len 2 m (by omega)
/-- A block of three cells, still as it was laid. -/
structure Held3 (B : Nat) (W : World) (c0 c1 c2 : Value) : Prop where
  lt : B < W.heap.size
  c0 : W.cell? ⟨B, 0, none⟩ = some c0
  c1 : W.cell? ⟨B, 1, none⟩ = some c1
  c2 : W.cell? ⟨B, 2, none⟩ = some c2
  f0 : W.frozen? ⟨B, 0, none⟩ = false
  f1 : W.frozen? ⟨B, 1, none⟩ = false
  f2 : W.frozen? ⟨B, 2, none⟩ = false
theorem Held3.new (w : World) (a b c : Value) (t : TypeId) : Held3 w.heap.size (w.alloc (.cells #[a, b, c] t)) a b c := ⟨by simp, by simp, by simp, by simp, by simp, by simp, by simp⟩
theorem Held3.keep {B : Nat} {W W' : World} {a b c : Value} (h : Held3 B W a b c) (hs : W.heap.size ≤ W'.heap.size) (hb : W'.heap[B]? = W.heap[B]?) : Held3 B W' a b c :=
  ⟨Nat.lt_of_lt_of_le h.lt hs, (World.cell?_of_block (a := ⟨B, 0, none⟩) hb).trans h.c0, (World.cell?_of_block (a := ⟨B, 1, none⟩) hb).trans h.c1, (World.cell?_of_block (a := ⟨B, 2, none⟩) hb).trans h.c2,
    (World.frozen?_of_block (a := ⟨B, 0, none⟩) hb).trans h.f0, (World.frozen?_of_block (a := ⟨B, 1, none⟩) hb).trans h.f1, (World.frozen?_of_block (a := ⟨B, 2, none⟩) hb).trans h.f2⟩
theorem Held3.step {B K : Nat} {W W' : World} {a b c : Value} (h : Held3 B W a b c) (hB : Below K W W') (hk : B < K) : Held3 B W' a b c := h.keep hB.size (hB.block B hk)
theorem Held3.put1 {B : Nat} {W : World} {a b c : Value} (h : Held3 B W a b c) (v : Value) : Held3 B (W.setCell ⟨B, 1, none⟩ v) a v c :=
  ⟨by simpa using h.lt, (World.cell?_setCell_other _ _ _ _ (by simp)).trans h.c0, World.cell?_setCell_same _ _ _ h.c1, (World.cell?_setCell_other _ _ _ _ (by simp)).trans h.c2, by simp; exact h.f0, by simp; exact h.f1, by simp; exact h.f2⟩
theorem Held3.put3 {B : Nat} {W : World} {a b c : Value} (h : Held3 B W a b c) (x y z : Value) : Held3 B (((W.setCell ⟨B, 0, none⟩ x).setCell ⟨B, 1, none⟩ y).setCell ⟨B, 2, none⟩ z) x y z := by
  have h0 : (W.setCell ⟨B, 0, none⟩ x).cell? ⟨B, 0, none⟩ = some x := World.cell?_setCell_same _ _ _ h.c0
  have h1 : ((W.setCell ⟨B, 0, none⟩ x).setCell ⟨B, 1, none⟩ y).cell? ⟨B, 1, none⟩ = some y := World.cell?_setCell_same _ _ _ ((World.cell?_setCell_other _ _ _ _ (by simp)).trans h.c1)
  have h2 : ((W.setCell ⟨B, 0, none⟩ x).setCell ⟨B, 1, none⟩ y).cell? ⟨B, 2, none⟩ = some c := (World.cell?_setCell_other _ _ _ _ (by simp)).trans ((World.cell?_setCell_other _ _ _ _ (by simp)).trans h.c2)
  exact ⟨by simpa using h.lt, (World.cell?_setCell_other _ _ _ _ (by simp)).trans ((World.cell?_setCell_other _ _ _ _ (by simp)).trans h0), (World.cell?_setCell_other _ _ _ _ (by simp)).trans h1, World.cell?_setCell_same _ _ _ h2, by simp; exact h.f0, by simp; exact h.f1, by simp; exact h.f2⟩
set_option maxRecDepth 100000 in
set_option maxHeartbeats 16000000 in
theorem reply_ok (n : Int) (tl : List Fld) (body : List Int) (v vb : Value) (w : World) (hl : At encF w v ((codeN, itoaB n) :: tl)) (hb : BytesAt w vb body) (hn : 100 ≤ n ∧ n ≤ 599) (hcol : (tl.any fun f => colonB f.1) = false)
    (hk : tellE ⟨n, tl.filter fun f => !isLength f.1, body⟩ 0 = 0) (htl : tl.length < 1000000) (hbl : body.length ≤ 8000) (hp : Pow10 w) :
    Calls Tryd.prog 8 #[v, vb] w fun e w' => ∃ fa fn fc ba bn bc, e = .returned (.tuple #[.agg #[.int .i64 n, .slice fa fn fc, .slice ba bn bc], .nilIface]) ∧ At encF w' (.slice fa fn fc) (tl.filter fun f => !isLength f.1) ∧ BytesAt w' (.slice ba bn bc) body ∧ Below w.heap.size w w' := by
  obtain ⟨a, cap, rfl, h1, h2, -, hel⟩ := id hl
  obtain ⟨b, off, rfl, hbb, hc⟩ := hel 0 (by simp)
  have c0 := hc 0 (by decide)
  have c1 := hc 1 (by decide)
  change w.cell? ⟨b, off + (0 * 2 + 0), none⟩ = some (.string codeN) at c0
  change w.cell? ⟨b, off + (0 * 2 + 1), none⟩ = some (.string (itoaB n)) at c1
  simp only [Nat.zero_mul, Nat.zero_add, Nat.add_zero] at c0 c1
  obtain ⟨o, htr, hta⟩ := tail_run b off _ cap _ tl w hl
  have hln : ((codeN, itoaB n) :: tl).length = tl.length + 1 := rfl
  have HCF := Lib.hid (fun W (hB : Below w.heap.size w W) => cfF_any b o tl.length (cap - 1) tl W (hta.old hB) (Nat.lt_of_lt_of_le hbb hB.size))
  rw [hcol] at HCF
  have HAT : Hid (∀ W, Calls Tryd.prog 22 #[.string (itoaB n)] W fun e w' => e = .returned (.tuple #[.int .i64 n, .nilIface]) ∧ Below W.heap.size W w') := fun W => by
    refine (Tryd.strconv_Atoi_ok (itoaB n) ?_ n (code_atoi n hn) W).mono ?_
    · have := code_len n hn
      omega
    · rintro e w' ⟨rfl, hw⟩
      refine ⟨rfl, ?_⟩
      rcases hw with rfl | ⟨t, rfl⟩
      · exact Below.refl _ _
      · exact Lib.bytesWorld_below W _ t
  have HIT := Lib.hid (fun W (hB : Below w.heap.size w W) => itoa_any n (by omega) (by omega) W (hp.old hB))
  have HCB := Lib.hid (fun W (hB : Below w.heap.size w W) => SlicesB.clone_any vb body W (hb.below hB) (by omega))
  have HCN := Lib.hid (fun W (hB : Below w.heap.size w W) => clone_some ⟨b, o, none⟩ tl.length (cap - 1) tl W (hta.old hB) (by omega))
  have HDE := Lib.hid (fun W bl (b2 c2 : Nat) (hB : bl ≤ W.heap.size) (h : RowsK.Own encF W bl 33 (.slice (some ⟨b2, 0, none⟩) tl.length c2) tl) => del_any (fun f => isLength f.1) 25 #[] (enters_of Tryd.func25 (by kernel_rfl) rfl) bl b2 c2 tl W h (by omega) hB (fun W x hW => rep2_any x W))
  have HCT := Lib.hid (fun W vf vb (hf : At encF W vf (tl.filter fun f => !isLength f.1)) (hb : BytesAt W vb body) => checkTell_any ⟨n, tl.filter fun f => !isLength f.1, body⟩ vf vb 0 W hf hb)
  rw [hk] at HCT
  have HS0 := Lib.hid (Held3.new w (.int .i64 0) (.slice none 0 0) (.slice none 0 0) 27)
  have hB0 : Hid (∀ o, Below w.heap.size w (w.alloc o)) := fun o => (Below.refl _ _).alloc (Nat.le_refl _) _
  have HBW := Lib.hid (hB0.out (.cells #[.int .i64 0, .slice none 0 0, .slice none 0 0] 27))
  obtain ⟨ab, cb, rfl, -⟩ := hb.open
  rw [hln] at h1 htr ⊢
  have HTL := Lib.hid htl
  have c0' := (hB0.out (.cells #[.int .i64 0, .slice none 0 0, .slice none 0 0] 27)).cell (p := ⟨b, off, none⟩) hbb |>.trans c0
  have c1' := (hB0.out (.cells #[.int .i64 0, .slice none 0 0, .slice none 0 0] 27)).cell (p := ⟨b, off + 1, none⟩) hbb |>.trans c1
  have C1 := Lib.hid c1
  have HBB := Lib.hid hbb
  change _ = some (Value.string ⟨#[58, 99, 111, 100, 101]⟩) at c0'
  generalize itoaB n = si at *
  obtain ⟨lb, hlb⟩ : ∃ lb, body.length = lb := ⟨_, rfl⟩
  rw [hlb] at HCB hbl ⊢
  have HLB := Lib.hid hlb
  clear hl hta hel hc c0 c1 hcol hk hp hln htl hlb
  go_enter Tryd.func8, Tryd.ntmps8
  go_upto_region 4 with (first
    | (go_at_call 19; (with_reducible refine (HCF.out _ HBW.out).mono ?_); rintro e w1 ⟨rfl, hB1⟩; replace HS0 := Lib.hid (HS0.out.step hB1 HS0.out.lt); replace HBW := Lib.hid (bstep HBW.out hB1); have c1w := (HBW.out.cell (p := ⟨b, off + 1, none⟩) HBB.out).trans C1.out; clear hB1)
    | (go_at_call 22; (with_reducible refine (HAT.out _).mono ?_); rintro e w2 ⟨rfl, hB2⟩; replace HS0 := Lib.hid (HS0.out.step hB2 HS0.out.lt); replace HBW := Lib.hid (bstep HBW.out hB2); have c2w := (HBW.out.cell (p := ⟨b, off + 1, none⟩) HBB.out).trans C1.out; clear hB2)
    | fail)
  have q0 : ∀ n : After w2, n.1.cell? ⟨b, off + 1, none⟩ = some (.string si) := fun n => n.cell c2w
  have d1 : decide (n < 100) = false := decide_eq_false (by omega)
  have d2 : decide (599 < n) = false := decide_eq_false (by omega)
  have d3 : (si.toList != si.toList) = false := by simp
  refine wp_region_after w2 (Below.refl _ _) (by kernel_rfl) (by kernel_rfl) ?_
  repeat (go_big_quiet_step (((go_at_call 16); refine After.call (HIT.out _ (HBW.out.trans_below (Subtype.property _) (Nat.le_refl _))))))
  refine wpQuiet_nil ?_
  rintro w3 ⟨n3, rfl⟩
  obtain ⟨w3, hB3⟩ := n3
  simp only
  clear q0 c1w c2w c0' c1'
  replace HS0 := Lib.hid (HS0.out.step hB3 HS0.out.lt)
  replace HBW := Lib.hid (bstep HBW.out hB3)
  clear hB3
  go_upto_region 8 with (first
    | (go_at_call 13; (with_reducible refine (HCB.out _ HBW.out).mono ?_); rintro e w4 ⟨v4, rfl, hO4, hB4⟩; obtain ⟨a4, c4, rfl, -⟩ := (BytesAt.of_own hO4).open; rw [HLB.out] at hO4 ⊢; have H03 := Lib.hid HS0.out.lt; replace HS0 := Lib.hid (HS0.out.step hB4 HS0.out.lt); replace HBW := Lib.hid (bstep HBW.out hB4); have HBA := Lib.hid (BytesAt.of_own hO4); have HOB := Lib.hid hO4; have H04 := Lib.hid HS0.out.lt; have HX0 := Lib.hid (Held3.new w4 (.int .i64 n) (.slice none 0 0) (.slice a4 lb c4) 27); have HA5 : Hid (Below w4.heap.size w4 (w4.alloc (.cells #[.int .i64 n, .slice none 0 0, .slice a4 lb c4] 27))) := (Below.refl _ _).alloc (Nat.le_refl _) _; clear hO4 hB4)
    | (go_at_call 24; (with_reducible refine (HCN.out _ (bstep HBW.out HA5.out)).mono ?_); rintro e w6 ⟨b6, c6, rfl, hO6, hB6⟩; have HO6 := Lib.hid hO6; have HB6 := Lib.hid hB6; clear hO6 hB6)
    | (go_at_call 23; (with_reducible refine (HDE.out _ _ _ _ HB6.out.size HO6.out).mono ?_); rintro e w7 ⟨n7, rfl, hn7, hO7, hB7⟩; have HO7 := Lib.hid hO7; have HN7 := Lib.hid hn7; replace HX0 := Lib.hid ((HX0.out.step HB6.out HX0.out.lt).step hB7 HX0.out.lt); replace HS0 := Lib.hid (((HS0.out.step HA5.out HS0.out.lt).step HB6.out (by have := HS0.out.lt; simp; omega)).step hB7 (by have := HS0.out.lt; simp; omega)); have HB7 := Lib.hid (HA5.out.trans ((HB6.out.mono (by simp)).trans (hB7.mono (by simp)))); have x1 := HX0.out.c1; have xf1 := HX0.out.f1; clear hO7 hB7 hn7)
    | fail)
  obtain ⟨w8, hw8⟩ : ∃ w8, w7.setCell ⟨w4.heap.size, 1, none⟩ (.slice (some ⟨b6, 0, none⟩) n7 c6) = w8 := ⟨_, rfl⟩
  have hx8 : Held3 w4.heap.size w8 (.int .i64 n) (.slice (some ⟨b6, 0, none⟩) n7 c6) (.slice a4 lb c4) := by rw [← hw8]; exact HX0.out.put1 _
  have hs4 := H04.out
  have hs8 : Held3 w.heap.size w8 (.int .i64 0) (.slice none 0 0) (.slice none 0 0) := by
    rw [← hw8]
    exact HS0.out.keep (by simp) (Below.heap_setCell _ _ _ _ (by simp only; omega))
  have hB8 : Below w4.heap.size w4 w8 := by rw [← hw8]; exact HB7.out.setCell (Nat.le_refl _) _
  have hf8 : At encF w8 (.slice (some ⟨b6, 0, none⟩) n7 c6) (tl.filter fun f => !isLength f.1) := by
    rw [← hw8]
    exact (HO7.out.setCell _ _ fun e => by have := (HO7.out.lt _ e).1; simp at this; omega).at_
  have HO8 : Hid (RowsK.Own encF w8 (w4.heap.size + 1) 33 (.slice (some ⟨b6, 0, none⟩) n7 c6) (tl.filter fun f => !isLength f.1)) := by
    rw [← hw8]
    have h := HO7.out.setCell ⟨w4.heap.size, 1, none⟩ (.slice (some ⟨b6, 0, none⟩) n7 c6) (fun e => by have := (HO7.out.lt _ e).1; simp at this; omega)
    rw [World.size_alloc] at h
    exact h
  have hb8 : BytesAt w8 (.slice a4 lb c4) body := HBA.out.below hB8
  have HOB8 := Lib.hid (HOB.out.below hB8)
  have HC8 := Lib.hid (HCT.out w8 _ _ hf8 hb8)
  have HF8 := Lib.hid hf8
  have HY8 := Lib.hid hb8
  have HX8 := Lib.hid hx8
  have HS8 := Lib.hid hs8
  have HBW8 := Lib.hid (HBW.out.trans (hB8.mono (by omega)))
  rw [hw8]
  have x0 := hx8.c0
  have x1' := hx8.c1
  have x2 := hx8.c2
  clear hw8 x1 xf1 hx8 hs8 hB8 hf8 hb8 hs4
  unfold rpV at HC8
  rw [errV0] at HC8
  simp only at HC8
  go_wp2_with (first
    | (go_at_call 17; (with_reducible refine (HC8.out).mono ?_); rintro e w9 ⟨rfl, hB9⟩; have HB9 := Lib.hid hB9; have HX9 := HX8.out.step hB9 HX8.out.lt; have HS9 := HS8.out.step hB9 HS8.out.lt; have y0 := HX9.c0; have y1 := HX9.c1; have y2 := HX9.c2; have z0 := HS9.c0; have z1 := HS9.c1; have z2 := HS9.c2; have zf0 := HS9.f0; have zf1 := HS9.f1; have zf2 := HS9.f2; have HP3 := Lib.hid (HS9.put3 (.int .i64 n) (.slice (some ⟨b6, 0, none⟩) n7 c6) (.slice a4 lb c4)); clear hB9 HX9 HS9)
    | fail)
  have hp3 := HP3.out
  have g0 := hp3.c0
  have g1 := hp3.c1
  have g2 := hp3.c2
  have hz9 := HB9.out.size
  have hOB := HOB8.out.below HB9.out
  have hO9 := HO8.out.of_block fun k hk => HB9.out.block k (HO8.out.lt k hk).2
  have h3 := H03.out
  have h4 := H04.out
  refine bodyPost_ret (v := .tuple #[.agg #[.int .i64 n, .slice (some ⟨b6, 0, none⟩) n7 c6, .slice a4 lb c4], .nilIface]) (by simp [results, Tryd.results8, go_sem, g0, g1, g2]) rfl ⟨_, _, _, _, _, _, rfl, ?_, ?_, ?_⟩
  · have hne : ∀ q, (Value.slice (some ⟨b6, 0, none⟩) n7 c6).ownBlock = some q → w.heap.size ≠ q := fun q hq e => by have := (hO9.lt q hq).1; omega
    exact (((hO9.setCell _ _ fun e => hne _ e rfl).setCell _ _ fun e => hne _ e rfl).setCell _ _ fun e => hne _ e rfl).at_
  · exact BytesAt.of_own (((hOB.setLow _ (by simp only; omega) _).setLow _ (by simp only; omega) _).setLow _ (by simp only; omega) _)
  · exact (((HBW8.out.trans (HB9.out.mono (by have := HBW8.out.size; omega))).setCell (Nat.le_refl _) _).setCell (Nat.le_refl _) _).setCell (Nat.le_refl _) _
end Go.Proofs.YtooplackonnemaaDoor.FieldsC
