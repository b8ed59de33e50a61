/-
  Feed of one whole frame, over what hear does with it.
  Conditions: where the bytes lie, and how many.
-/
import Derived.Test.YtegngpingfjedaaGreatDoorConnSt
import Derived.Test.YtegngpingfjedaaGreatDoorFrameP
import Derived.IntWalk
import Derived.Lib.IfaceEq
import Derived.Deep.CutRange
import Derived.Deep.CutBlock
namespace Go.Proofs.YtegngpingfjedaaGreatDoor.ConnS
open Go.RowKit ModL ConnR BA WireBig SlicesB FrameC FrameP
set_option linter.unusedVariables false
set_option linter.unusedSimpArgs false

theorem Cn.grown4 {base g : Nat} {w w' : World} {cs : Nat → Value} {inn inn' out : List Int} {v' : Value} (h : Cn base w g cs inn out) (hO : BytesL.Own w' base v' inn') (hg : w.grownBy w' (cs 4).ownBlock) (hat : v'.ownBlock = (cs 4).ownBlock ∨ v'.ownBlock = some w.heap.size) : Cn base (w'.setCell ⟨g, 4, none⟩ v') g (upd cs 4 v') inn' out := by
  have hgb := h.gb
  have k4 : ∀ k, (cs 4).ownBlock = some k → base ≤ k := fun k hk => (ownB_lt h.i k hk).1
  have kk : ∀ k, k < w.heap.size → (cs 4).ownBlock ≠ some k → w'.heap[k]? = w.heap[k]? := fun k hk hn => hg.block k hk (fun e => hn e.symm)
  have hr : CR 14 w' g cs := h.r.of_block (kk g h.r.lt (fun e => by have := k4 g e; omega)) hg.size
  have ho : BytesL.Own w' base (cs 5) out := ownB_of h.o (fun k hk => kk k (ownB_lt h.o k hk).2 (fun e => h.ap k e hk))
  have hn : ∀ k, v'.ownBlock = some k → (cs 5).ownBlock ≠ some k := by
    intro k hk
    rcases hat with e | e
    · rw [e] at hk; exact h.ap k hk
    · rw [e] at hk; intro e2; have := (ownB_lt h.o k e2).2; have := Option.some.inj hk; omega
  have e4 : upd cs 4 v' 4 = v' := upd_same _ _ _
  have e5 : upd cs 4 v' 5 = cs 5 := upd_other _ _ (by decide)
  refine ⟨hr.set 4 (by decide) v', ?_, ?_, by rw [e4, e5]; exact hn, h.gb, by have := hg.size; have := h.bs; simp; omega⟩
  · rw [e4]; exact ownB_of hO (fun k hk => set_block _ _ _ (ownB_lt hO k hk).2 (by have := (ownB_lt hO k hk).1; simp only; omega))
  · rw [e5]; exact ownB_of ho (fun k hk => set_block _ _ _ (ownB_lt ho k hk).2 (by have := (ownB_lt ho k hk).1; simp only; omega))
set_option maxRecDepth 100000 in
theorem eqErr (W : World) (a b : Int) : (binOp .eql 27 (.iface 83 (.int .i64 a)) (.iface 83 (.int .i64 b))).run Tryz.prog W = .ok (.bool (a == b)) W := Lib.run_eql_iface_int W a b Tryz.underlying27 (by kernel_rfl) Tryz.underlying83
theorem upd_again (cs : Nat → Value) (a b n : Value) : upd (upd (upd cs 4 a) 13 n) 4 b = upd (upd cs 4 b) 13 n := by
  funext j
  unfold upd
  by_cases h4 : j = 4
  · subst h4; simp
  · by_cases h13 : j = 13
    · subst h13; simp
    · simp [h4, h13]
set_option maxRecDepth 100000 in
theorem slice_endC (a : Option Addr) (n cap : Nat) (h : n ≤ cap) (hc : cap ≤ 9223372036854775807) (hn : a = none → cap = 0) :
    ∃ (ae : Option Addr) (ce : Nat), (∀ W, (Instr.slice 30 (.slice a n cap) (some (.int .i64 (n : Int))) none none).run Tryz.prog W = .ok (.slice ae 0 ce) W) ∧ ∀ W, BytesAt W (.slice ae 0 ce) [] := by
  refine ⟨if cap = n then a else a.map (·.add n), cap - n, fun W => ?_, fun W => ⟨_, _, rfl, by simp [BytesL.valB], by omega, ?_, by simp [BytesL.valB]⟩⟩
  · have hu : Tryz.prog.underlying 30 = some (.slice (Tryz.prog.elem 30)) := Tryz.underlying30
    have hs : (sizeOf (Tryz.prog.elem 30)).run Tryz.prog W = .ok 1 W := by kernel_rfl
    rw [run_slice_l (P := Tryz.prog) W 30 a n cap hu .i64 (n : Int) (by omega) (by omega), hs]
    simp only [Result.andThen, sliced]
    have e1 : ((n : Int)).toNat = n := by omega
    rw [e1, Nat.mul_one, Nat.sub_self]
  · intro e
    split at e
    · have := hn e; omega
    · cases a with
      | none => have := hn rfl; omega
      | some x => simp at e
/-- How many bytes wait. -/
def lenIn (g : Nat) (w : World) : Nat := match w.cell? ⟨g, 4, none⟩ with
  | some (.slice _ n _) => n
  | _ => 0
/-- What a step of the connection may touch. -/
def Touch (g : Nat) (cs : Nat → Value) (k : Nat) : Prop := k = g ∨ some k = (cs 4).ownBlock ∨ some k = (cs 5).ownBlock
set_option maxRecDepth 100000 in
set_option maxHeartbeats 8000000 in
theorem feed_one {base g : Nat} {w : World} {cs : Nat → Value} {out : List Int} (h : Cn base w g cs [] out) (hov : cs 11 = .bool false) (f : Fr) (hgd : good f) (hby : Args.ByteL f.body) (v : Value) (hv : BytesAt w v f.bytes) (Q : (Nat → Value) → List Int → World → Prop)
    (hQ : ∀ cs2 out2 W W', Q cs2 out2 W → Below W.heap.size W W' → Q cs2 out2 W')
    (hH : ∀ W vb v4, BytesL.Own W w.heap.size v4 [] → Cn base W g (upd (upd cs 4 v4) 13 (.slice none 0 0)) [] out → BytesAt W vb f.body → (∀ k, vb.ownBlock = some k → k ≠ g) → (∃ a c, vb = .slice a f.body.length c) → Mod (Touch g cs) w W → Calls Tryz.prog 46 #[.pointer (some ⟨g, 0, none⟩), f.val vb] W fun e w' => e = .returned (.tuple #[]) ∧ ∃ cs2 out2 ov, Cn base w' g cs2 [] out2 ∧ cs2 11 = .bool ov ∧ (∃ a n c, cs2 13 = .slice a n c) ∧ Q cs2 out2 w' ∧ Mod (Touch g (upd (upd cs 4 v4) 13 (.slice none 0 0))) W w') :
    Calls Tryz.prog 12 #[.pointer (some ⟨g, 0, none⟩), v] w fun e w' => ∃ cs2 out2 a n c, e = .returned (.slice a n c) ∧ cs2 13 = .slice a n c ∧ Cn base w' g cs2 [] out2 ∧ Q cs2 out2 w' ∧ Mod (Touch g cs) w w' := by
  have c4 := h.r.at_ 4 (by decide)
  have f4 := h.r.fz 4 (by decide)
  have c11 := h.r.at_ 11 (by decide)
  have c13 := h.r.at_ 13 (by decide)
  have f13 := h.r.fz 13 (by decide)
  rw [hov] at c11
  obtain ⟨a4, k4, e4, -⟩ := h.i.slice
  rw [e4] at c4
  obtain ⟨av, cv, rfl, -⟩ := hv.open
  have HS := Lib.hid h
  have HE4 := Lib.hid e4
  have HV := Lib.hid hv
  have HH := Lib.hid hH
  have HQ := Lib.hid hQ
  have HOV := Lib.hid hov
  have HGD := Lib.hid (And.intro hgd hby)
  have HBL := Lib.hid (bytes_len f)
  clear h e4 hv hH hov hgd hby hQ
  simp only [List.length_nil] at c4 HE4
  go_enter Tryz.func12, Tryz.ntmps12
  go_wp2_with (first
    | (at_builtin; refine wpList_append_bytes rfl _ _ rfl base (.slice a4 0 k4) [] rfl (by have h := HS.out.i; rw [HE4.out] at h; exact h) _ _ rfl HV.out (by have := HBL.out; have := HGD.out.1.2; simp; omega) HS.out.bs ?_; intro v2 w2 hO2 hB2 hg2 hat2; rw [List.nil_append] at hO2; obtain ⟨a2, k2, rfl, -⟩ := hO2.slice; have kg := hg2.block g (HS.out.r.lt) (fun e => by have := (ownB_lt HS.out.i g (by rw [HE4.out]; exact e.symm)).1; have := HS.out.gb; omega); have q4 := (World.cell?_of_block (a := ⟨g, 4, none⟩) kg).trans c4; have qf4 := (World.frozen?_of_block (a := ⟨g, 4, none⟩) kg).trans f4; have q13 := (World.cell?_of_block (a := ⟨g, 13, none⟩) kg).trans c13; have qf13 := (World.frozen?_of_block (a := ⟨g, 13, none⟩) kg).trans f13; have HO2 := Lib.hid hO2; have HG2 := Lib.hid hg2; have HAT2 := Lib.hid hat2; clear hO2 hB2 hg2 hat2 kg c4 f4 c11 c13 f13)
    | fail)
  obtain ⟨n2, hn2⟩ : ∃ n, f.bytes.length = n := ⟨_, rfl⟩
  have HN2 := Lib.hid hn2
  rw [hn2] at HO2 HAT2 ⊢
  have hA : Cn base ((w2.setCell ⟨g, 4, none⟩ (.slice a2 n2 k2)).setCell ⟨g, 13, none⟩ (.slice none 0 0)) g (upd (upd cs 4 (.slice a2 n2 k2)) 13 (.slice none 0 0)) f.bytes out := by
    have hG := HG2.out
    have hA := HAT2.out
    rw [← HE4.out] at hG hA
    exact (HS.out.grown4 HO2.out hG hA).set 13 (by decide) (by decide) (by decide) _
  have hMA : Mod (Touch g cs) w ((w2.setCell ⟨g, 4, none⟩ (.slice a2 n2 k2)).setCell ⟨g, 13, none⟩ (.slice none 0 0)) := by
    have hG := HG2.out
    rw [← HE4.out] at hG
    exact (((Mod.refl (Touch g cs) w).grown hG (fun k hk _ => .inr (.inl hk.symm))).setCell (fun _ => .inl rfl) _).setCell (fun _ => .inl rfl) _
  have HA := Lib.hid hA
  have HMA := Lib.hid hMA
  have HLT : Hid (n2 = f.body.length + 9) := hn2.symm.trans HBL.out
  have HRB := Lib.hid (read_back f HGD.out.1 [])
  simp only [List.append_nil] at HRB
  clear hA hMA hn2 q4 qf4 q13 qf13
  generalize (w2.setCell ⟨g, 4, none⟩ (.slice a2 n2 k2)).setCell ⟨g, 13, none⟩ (.slice none 0 0) = W1 at *
  go_loopw [28] (fun _ wi => Hid ((Cn base wi g (upd (upd cs 4 (.slice a2 n2 k2)) 13 (.slice none 0 0)) f.bytes out ∧ Mod (Touch g cs) w wi) ∨ (∃ cs2 out2 ov, Cn base wi g cs2 [] out2 ∧ cs2 11 = .bool ov ∧ (∃ a n c, cs2 13 = .slice a n c) ∧ Q cs2 out2 wi ∧ Mod (Touch g cs) w wi))) (fun _ wi => lenIn g wi)
  case atStart => exact .inl ⟨HA.out, HMA.out⟩
  case round =>
    rcases hrel.out with ⟨hC, hM⟩ | ⟨cs2, out2, ov, hC, hov, ⟨ae, ne, ce, h13⟩, hq, hM⟩
    · have c4 : wr.cell? ⟨g, 4, none⟩ = some (.slice a2 n2 k2) := hC.r.at_ 4 (by decide)
      have f4 : wr.frozen? ⟨g, 4, none⟩ = false := hC.r.fz 4 (by decide)
      have c11 : wr.cell? ⟨g, 11, none⟩ = some (.bool false) := (hC.r.at_ 11 (by decide)).trans (congrArg some HOV.out)
      have HBI : Hid (BytesAt wr (.slice a2 n2 k2) f.bytes) := BytesAt.of_own hC.i
      have HRD : Hid (Calls Tryz.prog 24 #[.slice a2 n2 k2] wr fun e w' => Below wr.heap.size wr w' ∧ ∃ a c, e = .returned (.tuple #[.agg #[.int .i64 f.kind, .int .i64 f.flags, .int .i64 f.stream, .slice a f.body.length c], .int .i64 (n2 : Int), .nilIface]) ∧ BytesL.Own w' wr.heap.size (.slice a f.body.length c) f.body) := by
        refine (read_any _ f.bytes wr HBI.out (good_bytes f HGD.out.1 HGD.out.2) (by have := HBL.out; have := HGD.out.1.2; omega)).mono ?_
        rintro e w' ⟨hB, ⟨hne, -⟩ | ⟨-, vb, rfl, hO⟩⟩
        · exact absurd HRB.out.1 hne
        · rw [HRB.out.2.1] at hO
          obtain ⟨a, c, rfl, -⟩ := hO.slice
          refine ⟨hB, a, c, ?_, hO⟩
          rw [HRB.out.2.1, HRB.out.2.2, show ((f.body.length : Int) + 9) = (n2 : Int) from by have := HLT.out; omega]
          rfl
      have HL4 : Hid (lenIn g wr = n2) := by show lenIn g wr = n2; unfold lenIn; rw [c4]
      have HC := Lib.hid hC
      have HM := Lib.hid hM
      clear hC hM hrel
      have hgl := HC.out.r.lt
      go_upto_region 10 with (first
        | (go_at_call 24; refine HRD.out.mono ?_; rintro e w3 ⟨hB3, ab, cb, rfl, hOb⟩; have d4 := (hB3.cell (p := ⟨g, 4, none⟩) hgl).trans c4; have df4 := (hB3.frozen (p := ⟨g, 4, none⟩) hgl).trans f4; have HB3 := Lib.hid hB3; have HOb := Lib.hid hOb; clear hB3 hOb c4 f4 c11)
        | fail)
      have hB4 : Below w3.heap.size w3 (w3.alloc (.cells #[.int .i64 f.kind, .int .i64 f.flags, .int .i64 f.stream, .slice ab f.body.length cb] 38)) := (Below.refl _ _).alloc (Nat.le_refl _) _
      have hg3 : g < w3.heap.size := Nat.lt_of_lt_of_le hgl HB3.out.size
      have p0 : (w3.alloc (.cells #[.int .i64 f.kind, .int .i64 f.flags, .int .i64 f.stream, .slice ab f.body.length cb] 38)).cell? ⟨w3.heap.size, 0, none⟩ = some (.int .i64 f.kind) := by simp
      have p1 : (w3.alloc (.cells #[.int .i64 f.kind, .int .i64 f.flags, .int .i64 f.stream, .slice ab f.body.length cb] 38)).cell? ⟨w3.heap.size, 1, none⟩ = some (.int .i64 f.flags) := by simp
      have p2 : (w3.alloc (.cells #[.int .i64 f.kind, .int .i64 f.flags, .int .i64 f.stream, .slice ab f.body.length cb] 38)).cell? ⟨w3.heap.size, 2, none⟩ = some (.int .i64 f.stream) := by simp
      have p3 : (w3.alloc (.cells #[.int .i64 f.kind, .int .i64 f.flags, .int .i64 f.stream, .slice ab f.body.length cb] 38)).cell? ⟨w3.heap.size, 3, none⟩ = some (.slice ab f.body.length cb) := by simp
      have r4 := (hB4.cell (p := ⟨g, 4, none⟩) hg3).trans d4
      have rf4 := (hB4.frozen (p := ⟨g, 4, none⟩) hg3).trans df4
      have hs4 : w3.heap.size < (w3.alloc (.cells #[.int .i64 f.kind, .int .i64 f.flags, .int .i64 f.stream, .slice ab f.body.length cb] 38)).heap.size := by simp
      have HB4 := Lib.hid (HB3.out.trans (hB4.mono HB3.out.size))
      have HOb4 := Lib.hid (ownB_of HOb.out (fun k hk => hB4.block k (ownB_lt HOb.out k hk).2))
      clear hB4 d4 df4
      generalize (w3.alloc (.cells #[.int .i64 f.kind, .int .i64 f.flags, .int .i64 f.stream, .slice ab f.body.length cb] 38)) = w4 at *
      obtain ⟨ae, ce, hsl, hnil⟩ : ∃ (ae : Option Addr) (ce : Nat), (∀ W, (Instr.slice 30 (.slice a2 n2 k2) (some (.int .i64 (n2 : Int))) none none).run Tryz.prog W = .ok (.slice ae 0 ce) W) ∧ ∀ W, BytesAt W (.slice ae 0 ce) [] := by
        obtain ⟨ao, co, e9, h1, h2, h3, -⟩ := HBI.out.open
        simp only [Value.slice.injEq] at e9
        obtain ⟨rfl, e9, rfl⟩ := e9
        exact slice_endC _ _ _ (by rw [e9]; exact h1) h2 h3
      have HCL := Lib.hid (fun W => clone_any (.slice ae 0 ce) [] W (hnil W) (by decide))
      clear hnil
      go_wp2_with (first
        | (go_at_call 45; refine (HCL.out _).mono ?_; rintro e w5 ⟨v5, rfl, hO5, hB5⟩; obtain ⟨a5, k5, rfl, -⟩ := hO5.slice; have HB5 := Lib.hid hB5; have HO5 := Lib.hid hO5; have s4 := (hB5.cell (p := ⟨g, 4, none⟩) (Nat.lt_trans hg3 hs4)).trans r4; have sf4 := (hB5.frozen (p := ⟨g, 4, none⟩) (Nat.lt_trans hg3 hs4)).trans rf4; have t0 := (hB5.cell (p := ⟨w3.heap.size, 0, none⟩) hs4).trans p0; have t1 := (hB5.cell (p := ⟨w3.heap.size, 1, none⟩) hs4).trans p1; have t2 := (hB5.cell (p := ⟨w3.heap.size, 2, none⟩) hs4).trans p2; have t3 := (hB5.cell (p := ⟨w3.heap.size, 3, none⟩) hs4).trans p3; have hne : g ≠ w3.heap.size := (by omega); have hne2 : w3.heap.size ≠ g := (by omega); clear hB5 hO5 r4 rf4 p0 p1 p2 p3)
        | fail)
      have hC5 := HC.out.below (HB4.out.trans (HB5.out.mono HB4.out.size))
      have hbl4 : wr.heap.size ≤ w4.heap.size := HB4.out.size
      have hO6 : BytesL.Own w5 base (.slice a5 0 k5) [] := HO5.out.mono (Nat.le_trans HC.out.bs hbl4)
      have hC6 := hC5.put4 hO6 (fun k hk e => by
        have h1 := (ownB_lt HO5.out k hk).1
        have h2 : (cs 5).ownBlock = some k := e
        have h3 := (ownB_lt HC.out.o k h2).2
        omega)
      rw [upd_again] at hC6
      have hM6 : Mod (Touch g cs) w (w5.setCell ⟨g, 4, none⟩ (.slice a5 0 k5)) := ((HM.out.below (HB4.out.trans (HB5.out.mono HB4.out.size)) (fun k hk hge => by have := HM.out.size; omega))).setCell (fun _ => .inl rfl) _
      have hX6 : BytesAt (w5.setCell ⟨g, 4, none⟩ (.slice a5 0 k5)) (.slice ab f.body.length cb) f.body := by
        have h5 := HOb4.out.below HB5.out
        exact BytesAt.of_own (ownB_of h5 (fun k hk => set_block _ _ _ (ownB_lt h5 k hk).2 (by have := (ownB_lt h5 k hk).1; simp only; omega)))
      have hO7 : BytesL.Own (w5.setCell ⟨g, 4, none⟩ (.slice a5 0 k5)) w.heap.size (.slice a5 0 k5) [] := by
        have h5 := HO5.out.mono (b' := w.heap.size) (Nat.le_trans HM.out.size hbl4)
        exact ownB_of h5 (fun k hk => set_block _ _ _ (ownB_lt h5 k hk).2 (by have := (ownB_lt HO5.out k hk).1; simp only; omega))
      have HHC := Lib.hid (HH.out _ _ _ hO7 hC6 hX6 (fun k hk => by have := (ownB_lt HOb4.out k hk).1; omega) ⟨ab, cb, rfl⟩ hM6)
      have HM6 := Lib.hid hM6
      have HV5 : Hid (∀ k, (Value.slice a5 0 k5).ownBlock = some k → w.heap.size ≤ k) := fun k hk => (ownB_lt hO7 k hk).1
      clear hC5 hC6 hM6 hX6 hO7 hO6 hsl
      refine HHC.out.mono ?_
      rintro e w7 ⟨rfl, cs2, out2, ov, hC7, hov7, h137, hq7, hM7⟩
      have hM8 : Mod (Touch g cs) w w7 := HM6.out.andThen hM7 (fun i hi => by
        rintro (e | e | e)
        · exact .inl e
        · have h1 : some i = (Value.slice a5 0 k5).ownBlock := e
          have := HV5.out i h1.symm
          omega
        · exact .inr (.inr e))
      have HR7 : Hid (∃ cs2 out2 ov, Cn base w7 g cs2 [] out2 ∧ cs2 11 = .bool ov ∧ (∃ a n c, cs2 13 = .slice a n c) ∧ Q cs2 out2 w7 ∧ Mod (Touch g cs) w w7) := ⟨cs2, out2, ov, hC7, hov7, h137, hq7, hM8⟩
      have HL7 : Hid (lenIn g w7 = 0) := by
        obtain ⟨a7, k7, e7, -⟩ := hC7.i.slice
        have := hC7.r.at_ 4 (by decide)
        rw [e7] at this
        show lenIn g w7 = 0
        unfold lenIn
        rw [this]
        rfl
      clear hC7 hov7 h137 hq7 hM7 hM8 s4 sf4 t0 t1 t2 t3
      go_wp2_with fail
      refine ⟨Or.inr HR7.out, ?_⟩
      rw [HL7.out, HL4.out]
      have := HLT.out
      omega
    · have c4 := hC.r.at_ 4 (by decide)
      have c11 := hC.r.at_ 11 (by decide)
      have c13 := hC.r.at_ 13 (by decide)
      rw [hov] at c11
      rw [h13] at c13
      obtain ⟨a4, k4, e4, hcap4, hmax4, hnil4⟩ := hC.i.slice
      rw [e4] at c4
      simp only [List.length_nil] at c4
      have HC := Lib.hid hC
      have HQ2 := Lib.hid hq
      have HM2 := Lib.hid hM
      have H13 := Lib.hid h13
      have HB4 : Hid (BytesAt wr (.slice a4 0 k4) []) := by have h := BytesAt.of_own hC.i; rw [e4] at h; exact h
      clear hC hq hM h13 hov e4 hcap4 hmax4 hnil4 hrel
      cases ov with
      | true =>
        go_wp2_with fail
        go_ret
        exact ⟨cs2, out2, ae, ne, ce, rfl, H13.out, HC.out, HQ2.out, HM2.out⟩
      | false =>
        have hE8 := fun W => eqErr W 8 8
        go_wp2_with (first
          | (go_at_call 24; refine (read_short _ [] _ HB4.out (by decide)).mono ?_; rintro e w3 ⟨rfl, hB3⟩; have d13 : ∀ o, (w3.alloc o).cell? ⟨g, 13, none⟩ = some (.slice ae ne ce) := (fun o => (((Below.refl w3.heap.size w3).alloc (Nat.le_refl _) o).cell (p := ⟨g, 13, none⟩) (Nat.lt_of_lt_of_le HC.out.r.lt hB3.size)).trans ((hB3.cell (p := ⟨g, 13, none⟩) HC.out.r.lt).trans c13)); have hs3 := hB3.size; have HB3 := Lib.hid hB3; clear hB3 c13 c11 c4)
          | fail)
        go_ret
        have hBF := fun o => HB3.out.alloc (HB3.out.size) o
        exact ⟨cs2, out2, ae, ne, ce, rfl, H13.out, HC.out.below (hBF _), HQ.out _ _ _ _ HQ2.out (hBF _), HM2.out.below (hBF _) (fun k hk hge => by have := HM2.out.size; omega)⟩
end Go.Proofs.YtegngpingfjedaaGreatDoor.ConnS
