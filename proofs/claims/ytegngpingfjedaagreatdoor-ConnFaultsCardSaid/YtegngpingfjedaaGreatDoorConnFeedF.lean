/-
  Feed of one whole frame, with anything behind it, where hear of it ends the connection.
  Conditions: where the bytes lie, and how many.
-/
import Derived.Test.YtegngpingfjedaaGreatDoorConnFeed
namespace Go.Proofs.YtegngpingfjedaaGreatDoor.ConnS
open Go.RowKit ModL ConnR BA WireBig SlicesB FrameC FrameP
set_option linter.unusedVariables false
set_option linter.unusedSimpArgs false

set_option maxRecDepth 100000 in
theorem slice_tailC {w : World} {a : Option Addr} {n cap : Nat} {L : List Int} (h : BytesAt w (.slice a n cap) L) (m : Nat) (hm : m ≤ n) :
    ∃ (ae : Option Addr) (ce : Nat), (∀ W, (Instr.slice 30 (.slice a n cap) (some (.int .i64 (m : Int))) none none).run Tryz.prog W = .ok (.slice ae (n - m) ce) W) ∧ ∀ W, BytesAt W (.slice a n cap) L → BytesAt W (.slice ae (n - m) ce) (L.drop m) := by
  obtain ⟨_, _, e9, h1, h2, h3, -⟩ := h.open
  simp only [Value.slice.injEq] at e9
  obtain ⟨rfl, e9, rfl⟩ := e9
  have hu : Tryz.prog.underlying 30 = some (.slice (Tryz.prog.elem 30)) := Tryz.underlying30
  have hs : ∀ W, (sizeOf (Tryz.prog.elem 30)).run Tryz.prog W = .ok 1 W := fun W => by kernel_rfl
  refine ⟨if cap = m then a else a.map (·.add m), cap - m, fun W => ?_, fun W hW => ?_⟩
  · rw [run_slice_l (P := Tryz.prog) W 30 a n cap hu .i64 (m : Int) (by omega) (by omega), hs W]
    simp only [Result.andThen, sliced]
    have e1 : ((m : Int)).toNat = m := by omega
    rw [e1, Nat.mul_one]
  · by_cases hcm : cap = m
    · rw [if_pos hcm]
      have hL : L.drop m = [] := List.drop_eq_nil_of_le (by omega)
      rw [hL, show n - m = 0 from by omega, show cap - m = 0 from by omega]
      exact ⟨a, 0, rfl, by simp [BytesL.valB], by omega, by simp, by simp [BytesL.valB]⟩
    · rw [if_neg hcm]
      cases a with
      | none => have := h3 rfl; omega
      | some x =>
        obtain ⟨b, o, q⟩ := x
        rcases Nat.eq_zero_or_pos n with h0 | h0
        · have hL : L.drop m = [] := List.drop_eq_nil_of_le (by omega)
          rw [hL, show n - m = 0 from by omega]
          exact ⟨_, cap - m, rfl, by simp [BytesL.valB], by omega, by simp, by simp [BytesL.valB]⟩
        · obtain ⟨_, _, _, -, -, -, hel⟩ := hW.open
          obtain ⟨b2, o2, e2, -, -⟩ := hel 0 (by omega)
          simp only [Value.slice.injEq] at *
          have hq : q = none := by
            rename_i e3
            obtain ⟨e3, -, -⟩ := e3
            rw [← e3] at e2
            simp only [Option.some.injEq, Addr.mk.injEq] at e2
            exact e2.2.2
          subst hq
          have h9 := bytesAt_drop hW m (by omega)
          by_cases hm0 : m = 0
          · subst hm0; simpa [Addr.add] using h9
          · simpa [Addr.add, hm0] using h9
set_option maxRecDepth 100000 in
set_option maxHeartbeats 8000000 in
theorem feed_fail {base g : Nat} {w : World} {cs : Nat → Value} {out : List Int} (h : Cn base w g cs [] out) (hov : cs 11 = .bool false) (f : Fr) (hgd : good f) (hby : Args.ByteL f.body) (rest : List Int) (hrb : Args.ByteL rest) (hrl : (f.bytes ++ rest).length ≤ 140737488355327) (v : Value) (hv : BytesAt w v (f.bytes ++ rest)) (Q : (Nat → Value) → List Int → World → Prop)
    (hQ : ∀ cs2 out2 W W', Q cs2 out2 W → Below W.heap.size W W' → Q cs2 out2 W')
    (hH : ∀ W vb v4, BytesL.Own W w.heap.size v4 rest → Cn base W g (upd (upd cs 4 v4) 13 (.slice none 0 0)) rest out → BytesAt W vb f.body → (∀ k, vb.ownBlock = some k → k ≠ g) → (∃ a c, vb = .slice a f.body.length c) → Mod (Touch g cs) w W → Calls Tryz.prog 46 #[.pointer (some ⟨g, 0, none⟩), f.val vb] W fun e w' => e = .returned (.tuple #[]) ∧ ∃ cs2 out2, Cn base w' g cs2 rest out2 ∧ cs2 11 = .bool true ∧ (∃ a n c, cs2 13 = .slice a n c) ∧ Q cs2 out2 w' ∧ Mod (Touch g (upd (upd cs 4 v4) 13 (.slice none 0 0))) W w') :
    Calls Tryz.prog 12 #[.pointer (some ⟨g, 0, none⟩), v] w fun e w' => ∃ cs2 out2 a n c, e = .returned (.slice a n c) ∧ cs2 13 = .slice a n c ∧ Cn base w' g cs2 rest out2 ∧ Q cs2 out2 w' ∧ Mod (Touch g cs) w w' := by
  have HRB := Lib.hid (read_back f hgd rest)
  have hLL : (f.bytes ++ rest).length = f.bytes.length + rest.length := List.length_append
  obtain ⟨L, hL⟩ : ∃ L, f.bytes ++ rest = L := ⟨_, rfl⟩
  rw [hL] at hv hrl HRB hLL
  have HL := Lib.hid hL
  have HLL := Lib.hid hLL
  clear hL hLL
  have c4 := h.r.at_ 4 (by decide)
  have f4 := h.r.fz 4 (by decide)
  have c11 := h.r.at_ 11 (by decide)
  have c13 := h.r.at_ 13 (by decide)
  have f13 := h.r.fz 13 (by decide)
  rw [hov] at c11
  obtain ⟨a4, k4, e4, -⟩ := h.i.slice
  rw [e4] at c4
  obtain ⟨av, cv, rfl, -⟩ := hv.open
  have HS := Lib.hid h
  have HE4 := Lib.hid e4
  have HV := Lib.hid hv
  have HH := Lib.hid hH
  have HQ := Lib.hid hQ
  have HOV := Lib.hid hov
  have HGD := Lib.hid (And.intro hgd hby)
  have HBL := Lib.hid (bytes_len f)
  have HRL := Lib.hid (And.intro hrb hrl)
  clear h e4 hv hH hov hgd hby hQ hrb hrl
  simp only [List.length_nil] at c4 HE4
  go_enter Tryz.func12, Tryz.ntmps12
  go_wp2_with (first
    | (at_builtin; refine wpList_append_bytes rfl _ _ rfl base (.slice a4 0 k4) [] rfl (by have h := HS.out.i; rw [HE4.out] at h; exact h) _ _ rfl HV.out (by have := HRL.out.2; simp only [List.length_nil]; omega) HS.out.bs ?_; intro v2 w2 hO2 hB2 hg2 hat2; rw [List.nil_append] at hO2; obtain ⟨a2, k2, rfl, -⟩ := hO2.slice; have kg := hg2.block g (HS.out.r.lt) (fun e => by have := (ownB_lt HS.out.i g (by rw [HE4.out]; exact e.symm)).1; have := HS.out.gb; omega); have q4 := (World.cell?_of_block (a := ⟨g, 4, none⟩) kg).trans c4; have qf4 := (World.frozen?_of_block (a := ⟨g, 4, none⟩) kg).trans f4; have q13 := (World.cell?_of_block (a := ⟨g, 13, none⟩) kg).trans c13; have qf13 := (World.frozen?_of_block (a := ⟨g, 13, none⟩) kg).trans f13; have HO2 := Lib.hid hO2; have HG2 := Lib.hid hg2; have HAT2 := Lib.hid hat2; clear hO2 hB2 hg2 hat2 kg c4 f4 c11 c13 f13)
    | fail)
  obtain ⟨n2, hn2⟩ : ∃ n, L.length = n := ⟨_, rfl⟩
  have HN2 := Lib.hid hn2
  rw [hn2] at HO2 HAT2 ⊢
  have hA : Cn base ((w2.setCell ⟨g, 4, none⟩ (.slice a2 n2 k2)).setCell ⟨g, 13, none⟩ (.slice none 0 0)) g (upd (upd cs 4 (.slice a2 n2 k2)) 13 (.slice none 0 0)) L out := by
    have hG := HG2.out
    have hA := HAT2.out
    rw [← HE4.out] at hG hA
    exact (HS.out.grown4 HO2.out hG hA).set 13 (by decide) (by decide) (by decide) _
  have hMA : Mod (Touch g cs) w ((w2.setCell ⟨g, 4, none⟩ (.slice a2 n2 k2)).setCell ⟨g, 13, none⟩ (.slice none 0 0)) := by
    have hG := HG2.out
    rw [← HE4.out] at hG
    exact (((Mod.refl (Touch g cs) w).grown hG (fun k hk _ => .inr (.inl hk.symm))).setCell (fun _ => .inl rfl) _).setCell (fun _ => .inl rfl) _
  have HA := Lib.hid hA
  have HMA := Lib.hid hMA
  obtain ⟨m, hm⟩ : ∃ m, f.body.length + 9 = m := ⟨_, rfl⟩
  have HMM := Lib.hid hm
  clear hm
  have HLT : Hid (n2 = m + rest.length) := by
    show n2 = _
    rw [← hn2, HLL.out, HBL.out, HMM.out]
  clear hA hMA hn2 q4 qf4 q13 qf13
  generalize (w2.setCell ⟨g, 4, none⟩ (.slice a2 n2 k2)).setCell ⟨g, 13, none⟩ (.slice none 0 0) = W1 at *
  go_loopw [28] (fun _ wi => Hid ((Cn base wi g (upd (upd cs 4 (.slice a2 n2 k2)) 13 (.slice none 0 0)) L out ∧ Mod (Touch g cs) w wi) ∨ (∃ cs2 out2, Cn base wi g cs2 rest out2 ∧ cs2 11 = .bool true ∧ (∃ a n c, cs2 13 = .slice a n c) ∧ Q cs2 out2 wi ∧ Mod (Touch g cs) w wi))) (fun _ wi => lenIn g wi)
  case atStart => exact .inl ⟨HA.out, HMA.out⟩
  case round =>
    rcases hrel.out with ⟨hC, hM⟩ | ⟨cs2, out2, hC, hov, ⟨ae, ne, ce, h13⟩, hq, hM⟩
    · have c4 : wr.cell? ⟨g, 4, none⟩ = some (.slice a2 n2 k2) := hC.r.at_ 4 (by decide)
      have f4 : wr.frozen? ⟨g, 4, none⟩ = false := hC.r.fz 4 (by decide)
      have c11 : wr.cell? ⟨g, 11, none⟩ = some (.bool false) := (hC.r.at_ 11 (by decide)).trans (congrArg some HOV.out)
      have HBI : Hid (BytesAt wr (.slice a2 n2 k2) L) := BytesAt.of_own hC.i
      have HRD : Hid (Calls Tryz.prog 24 #[.slice a2 n2 k2] wr fun e w' => Below wr.heap.size wr w' ∧ ∃ a c, e = .returned (.tuple #[.agg #[.int .i64 f.kind, .int .i64 f.flags, .int .i64 f.stream, .slice a f.body.length c], .int .i64 (m : Int), .nilIface]) ∧ BytesL.Own w' wr.heap.size (.slice a f.body.length c) f.body) := by
        refine (read_any _ L wr HBI.out (fun z hz => (List.mem_append.1 (HL.out ▸ hz)).elim (good_bytes f HGD.out.1 HGD.out.2 z) (HRL.out.1 z)) HRL.out.2).mono ?_
        rintro e w' ⟨hB, ⟨hne, -⟩ | ⟨-, vb, rfl, hO⟩⟩
        · exact absurd HRB.out.1 hne
        · rw [HRB.out.2.1] at hO
          obtain ⟨a, c, rfl, -⟩ := hO.slice
          refine ⟨hB, a, c, ?_, hO⟩
          rw [HRB.out.2.1, HRB.out.2.2, show ((f.body.length : Int) + 9) = (m : Int) from by have := HMM.out; omega]
          rfl
      have HL4 : Hid (lenIn g wr = n2) := by show lenIn g wr = n2; unfold lenIn; rw [c4]
      have HC := Lib.hid hC
      have HM := Lib.hid hM
      clear hC hM hrel
      have hgl := HC.out.r.lt
      go_upto_region 10 with (first
        | (go_at_call 24; refine HRD.out.mono ?_; rintro e w3 ⟨hB3, ab, cb, rfl, hOb⟩; have d4 := (hB3.cell (p := ⟨g, 4, none⟩) hgl).trans c4; have df4 := (hB3.frozen (p := ⟨g, 4, none⟩) hgl).trans f4; have HB3 := Lib.hid hB3; have HOb := Lib.hid hOb; clear hB3 hOb c4 f4 c11)
        | fail)
      have hB4 : Below w3.heap.size w3 (w3.alloc (.cells #[.int .i64 f.kind, .int .i64 f.flags, .int .i64 f.stream, .slice ab f.body.length cb] 38)) := (Below.refl _ _).alloc (Nat.le_refl _) _
      have hg3 : g < w3.heap.size := Nat.lt_of_lt_of_le hgl HB3.out.size
      have p0 : (w3.alloc (.cells #[.int .i64 f.kind, .int .i64 f.flags, .int .i64 f.stream, .slice ab f.body.length cb] 38)).cell? ⟨w3.heap.size, 0, none⟩ = some (.int .i64 f.kind) := by simp
      have p1 : (w3.alloc (.cells #[.int .i64 f.kind, .int .i64 f.flags, .int .i64 f.stream, .slice ab f.body.length cb] 38)).cell? ⟨w3.heap.size, 1, none⟩ = some (.int .i64 f.flags) := by simp
      have p2 : (w3.alloc (.cells #[.int .i64 f.kind, .int .i64 f.flags, .int .i64 f.stream, .slice ab f.body.length cb] 38)).cell? ⟨w3.heap.size, 2, none⟩ = some (.int .i64 f.stream) := by simp
      have p3 : (w3.alloc (.cells #[.int .i64 f.kind, .int .i64 f.flags, .int .i64 f.stream, .slice ab f.body.length cb] 38)).cell? ⟨w3.heap.size, 3, none⟩ = some (.slice ab f.body.length cb) := by simp
      have r4 := (hB4.cell (p := ⟨g, 4, none⟩) hg3).trans d4
      have rf4 := (hB4.frozen (p := ⟨g, 4, none⟩) hg3).trans df4
      have hs4 : w3.heap.size < (w3.alloc (.cells #[.int .i64 f.kind, .int .i64 f.flags, .int .i64 f.stream, .slice ab f.body.length cb] 38)).heap.size := by simp
      have HB4 := Lib.hid (HB3.out.trans (hB4.mono HB3.out.size))
      have HOb4 := Lib.hid (ownB_of HOb.out (fun k hk => hB4.block k (ownB_lt HOb.out k hk).2))
      clear hB4 d4 df4
      generalize (w3.alloc (.cells #[.int .i64 f.kind, .int .i64 f.flags, .int .i64 f.stream, .slice ab f.body.length cb] 38)) = w4 at *
      obtain ⟨ae, ce, hsl, hat⟩ : ∃ (ae : Option Addr) (ce : Nat), (∀ W, (Instr.slice 30 (.slice a2 n2 k2) (some (.int .i64 (m : Int))) none none).run Tryz.prog W = .ok (.slice ae (n2 - m) ce) W) ∧ ∀ W, BytesAt W (.slice a2 n2 k2) L → BytesAt W (.slice ae (n2 - m) ce) rest := by
        obtain ⟨ae, ce, h1, h2⟩ := slice_tailC HBI.out m (by have := HLT.out; omega)
        refine ⟨ae, ce, h1, fun W hW => ?_⟩
        have h3 := h2 W hW
        rwa [← HL.out, List.drop_left' (HBL.out.trans HMM.out)] at h3
      obtain ⟨rl, hrl⟩ : ∃ rl, n2 - m = rl := ⟨_, rfl⟩
      rw [hrl] at hsl hat
      have HRR : Hid (rest.length = rl) := by show rest.length = rl; rw [← hrl, HLT.out]; omega
      have HCL := Lib.hid (fun W hW => clone_any (.slice ae rl ce) rest W (hat W hW) (by have := HRL.out.2; have := HLL.out; omega))
      clear hat hrl
      have HBI4 := Lib.hid (HBI.out.below HB4.out)
      go_wp2_with (first
        | (go_at_call 45; refine (HCL.out _ HBI4.out).mono ?_; rintro e w5 ⟨v5, rfl, hO5, hB5⟩; obtain ⟨a5, k5, e5x, -⟩ := hO5.slice; rw [HRR.out] at e5x; subst e5x; have HB5 := Lib.hid hB5; have HO5 := Lib.hid hO5; have s4 := (hB5.cell (p := ⟨g, 4, none⟩) (Nat.lt_trans hg3 hs4)).trans r4; have sf4 := (hB5.frozen (p := ⟨g, 4, none⟩) (Nat.lt_trans hg3 hs4)).trans rf4; have t0 := (hB5.cell (p := ⟨w3.heap.size, 0, none⟩) hs4).trans p0; have t1 := (hB5.cell (p := ⟨w3.heap.size, 1, none⟩) hs4).trans p1; have t2 := (hB5.cell (p := ⟨w3.heap.size, 2, none⟩) hs4).trans p2; have t3 := (hB5.cell (p := ⟨w3.heap.size, 3, none⟩) hs4).trans p3; have hne : g ≠ w3.heap.size := (by omega); have hne2 : w3.heap.size ≠ g := (by omega); clear hB5 hO5 r4 rf4 p0 p1 p2 p3)
        | fail)
      have hC5 := HC.out.below (HB4.out.trans (HB5.out.mono HB4.out.size))
      have hbl4 : wr.heap.size ≤ w4.heap.size := HB4.out.size
      have hO6 : BytesL.Own w5 base (.slice a5 rl k5) rest := HO5.out.mono (Nat.le_trans HC.out.bs hbl4)
      have hC6 := hC5.put4 hO6 (fun k hk e => by
        have h1 := (ownB_lt HO5.out k hk).1
        have h2 : (cs 5).ownBlock = some k := e
        have h3 := (ownB_lt HC.out.o k h2).2
        omega)
      rw [upd_again] at hC6
      have hM6 : Mod (Touch g cs) w (w5.setCell ⟨g, 4, none⟩ (.slice a5 rl k5)) := ((HM.out.below (HB4.out.trans (HB5.out.mono HB4.out.size)) (fun k hk hge => by have := HM.out.size; omega))).setCell (fun _ => .inl rfl) _
      have hX6 : BytesAt (w5.setCell ⟨g, 4, none⟩ (.slice a5 rl k5)) (.slice ab f.body.length cb) f.body := by
        have h5 := HOb4.out.below HB5.out
        exact BytesAt.of_own (ownB_of h5 (fun k hk => set_block _ _ _ (ownB_lt h5 k hk).2 (by have := (ownB_lt h5 k hk).1; simp only; omega)))
      have hO7 : BytesL.Own (w5.setCell ⟨g, 4, none⟩ (.slice a5 rl k5)) w.heap.size (.slice a5 rl k5) rest := by
        have h5 := HO5.out.mono (b' := w.heap.size) (Nat.le_trans HM.out.size hbl4)
        exact ownB_of h5 (fun k hk => set_block _ _ _ (ownB_lt h5 k hk).2 (by have := (ownB_lt HO5.out k hk).1; simp only; omega))
      have HHC := Lib.hid (HH.out _ _ _ hO7 hC6 hX6 (fun k hk => by have := (ownB_lt HOb4.out k hk).1; omega) ⟨ab, cb, rfl⟩ hM6)
      have HM6 := Lib.hid hM6
      have HV5 : Hid (∀ k, (Value.slice a5 rl k5).ownBlock = some k → w.heap.size ≤ k) := fun k hk => (ownB_lt hO7 k hk).1
      clear hC5 hC6 hM6 hX6 hO7 hO6 hsl
      refine HHC.out.mono ?_
      rintro e w7 ⟨rfl, cs2, out2, hC7, hov7, h137, hq7, hM7⟩
      have hM8 : Mod (Touch g cs) w w7 := HM6.out.andThen hM7 (fun i hi => by
        rintro (e | e | e)
        · exact .inl e
        · have h1 : some i = (Value.slice a5 rl k5).ownBlock := e
          have := HV5.out i h1.symm
          omega
        · exact .inr (.inr e))
      have HR7 : Hid (∃ cs2 out2, Cn base w7 g cs2 rest out2 ∧ cs2 11 = .bool true ∧ (∃ a n c, cs2 13 = .slice a n c) ∧ Q cs2 out2 w7 ∧ Mod (Touch g cs) w w7) := ⟨cs2, out2, hC7, hov7, h137, hq7, hM8⟩
      have HL7 : Hid (lenIn g w7 = rl) := by
        obtain ⟨a7, k7, e7, -⟩ := hC7.i.slice
        have := hC7.r.at_ 4 (by decide)
        rw [e7] at this
        show lenIn g w7 = rl
        unfold lenIn
        rw [this]
        exact HRR.out
      clear hC7 hov7 h137 hq7 hM7 hM8 s4 sf4 t0 t1 t2 t3
      go_wp2_with fail
      refine ⟨Or.inr HR7.out, ?_⟩
      rw [HL7.out, HL4.out]
      have := HLT.out
      have := HRR.out
      have := HMM.out
      omega
    · have c11 := hC.r.at_ 11 (by decide)
      have c13 := hC.r.at_ 13 (by decide)
      rw [hov] at c11
      rw [h13] at c13
      have HC := Lib.hid hC
      have HQ2 := Lib.hid hq
      have HM2 := Lib.hid hM
      have H13 := Lib.hid h13
      clear hC hq hM h13 hov hrel
      go_wp2_with fail
      go_ret
      exact ⟨cs2, out2, ae, ne, ce, rfl, H13.out, HC.out, HQ2.out, HM2.out⟩
end Go.Proofs.YtegngpingfjedaaGreatDoor.ConnS
