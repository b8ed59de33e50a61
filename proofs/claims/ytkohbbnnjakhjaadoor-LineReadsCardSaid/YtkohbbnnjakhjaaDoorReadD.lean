/-
  Package line's reader: body, fault, digits.
  Conditions: where the bytes lie.
-/
import Derived.Test.YtkohbbnnjakhjaaDoorReadV
import Derived.Lib.IfaceEq
import Derived.LaidEql
namespace Go.Proofs.YtkohbbnnjakhjaaDoor.ReadC
open Go.RowKit BA ChunkD ModL LineC SlicesB
set_option linter.unusedVariables false
set_option linter.unusedSimpArgs false

/-- The reader's cells, where nothing is wrong. -/
theorem RS.cells {w0 w : World} {X : Nat} {v : Value} {b : List Int} {p : Nat} (h : RS errN w0 w X v b (p, 0)) : w.cell? ⟨X, 0, none⟩ = some v ∧ w.cell? ⟨X, 1, none⟩ = some (.int .i64 p) ∧ w.cell? ⟨X, 2, none⟩ = some .nilIface ∧ w.frozen? ⟨X, 0, none⟩ = false ∧ w.frozen? ⟨X, 1, none⟩ = false ∧ w.frozen? ⟨X, 2, none⟩ = false := by
  obtain ⟨c0, ⟨q, q1, q2, q3⟩, c2, f0, f1, f2⟩ := h.rd
  have := q3 rfl
  simp only at this
  subst this
  exact ⟨c0, q2, c2, f0, f1, f2⟩
theorem RS.cellsE {w0 w : World} {X : Nat} {v : Value} {b : List Int} {p e : Nat} (h : RS errN w0 w X v b (p, e)) (he : e ≠ 0) : w.cell? ⟨X, 0, none⟩ = some v ∧ (∃ q : Nat, w.cell? ⟨X, 1, none⟩ = some (.int .i64 q)) ∧ w.cell? ⟨X, 2, none⟩ = some (.iface 63 (.int .i64 e)) ∧ w.frozen? ⟨X, 0, none⟩ = false ∧ w.frozen? ⟨X, 1, none⟩ = false ∧ w.frozen? ⟨X, 2, none⟩ = false := by
  obtain ⟨c0, ⟨q, q1, q2, q3⟩, c2, f0, f1, f2⟩ := h.rd
  simp only at c2
  rw [errNk he] at c2
  exact ⟨c0, ⟨q, q2⟩, c2, f0, f1, f2⟩
theorem RS.elems {en : Nat → Value} {w0 w : World} {X n cap : Nat} {a : Option Addr} {b : List Int} {σ : Nat × Nat} (h : RS en w0 w X (.slice a n cap) b σ) : ∀ i, i < b.length → ∃ bb off, a = some ⟨bb, off, none⟩ ∧ bb < w.heap.size ∧ w.cell? ⟨bb, off + i, none⟩ = some (.int .u8 (b.getD i 0)) := by
  obtain ⟨a1, cc1, e1, _, _, _, hel⟩ := h.bytes.open
  simp only [Value.slice.injEq] at e1
  obtain ⟨rfl, _, rfl⟩ := e1
  exact hel
theorem bytes_nil (w : World) : BytesAt w (.slice none 0 0) [] := ⟨none, 0, rfl, by simp [BytesL.valB], by simp, by simp, by simp [BytesL.valB]⟩
theorem bytes_none {w : World} {n c : Nat} {l : List Int} (h : BytesAt w (.slice none n c) l) : n = 0 ∧ c = 0 ∧ l = [] := by
  obtain ⟨a, cc, e, h1, h2, h3, h4⟩ := h.open
  simp only [Value.slice.injEq] at e
  obtain ⟨rfl, rfl, rfl⟩ := e
  have hc := h3 rfl
  subst hc
  exact ⟨by omega, rfl, List.eq_nil_of_length_eq_zero (by omega)⟩
/-- What is cut out of a slice of bytes. -/
theorem bytes_cut {w : World} {bb off L cap : Nat} {b : List Int} (h : BytesAt w (.slice (some ⟨bb, off, none⟩) L cap) b) (q n : Nat) (hq : q + n ≤ b.length) : BytesAt w (.slice (some ⟨bb, off + q, none⟩) n (cap - q)) ((b.drop q).take n) :=
  bytesAt_take (bytesAt_drop h q (by omega)) n (by rw [List.length_drop]; omega)
/-- Where a piece of a slice begins. -/
def cutA (a : Option Addr) (q cap : Nat) : Option Addr := if cap = q then a else a.map (·.add q)
set_option maxRecDepth 100000 in
theorem slice_run (a : Option Addr) (L cap q n : Nat) (h : q + n ≤ cap) (W : World) :
    (Instr.slice 22 (.slice a L cap) (some (.int .i64 (q : Int))) (some (.int .i64 ((q : Int) + (n : Int)))) none).run Tryd.prog W = .ok (.slice (cutA a q cap) n (cap - q)) W := by
  have hu : Tryd.prog.underlying 22 = some (.slice (Tryd.prog.elem 22)) := Tryd.underlying22
  have hs : (sizeOf (Tryd.prog.elem 22)).run Tryd.prog W = .ok 1 W := by kernel_rfl
  rw [run_slice_lh (P := Tryd.prog) W 22 a L cap hu .i64 .i64 (q : Int) ((q : Int) + (n : Int)) (by omega) (by omega) (by omega), hs]
  simp only [Result.andThen, sliced]
  have e1 : ((q : Int)).toNat = q := by omega
  have e2 : ((q : Int) + (n : Int)).toNat = q + n := by omega
  rw [e1, e2, Nat.mul_one, Nat.add_sub_cancel_left]
  rfl
set_option maxRecDepth 100000 in
theorem bytes_cutA {w : World} {a : Option Addr} {L cap : Nat} {b : List Int} (h : BytesAt w (.slice a L cap) b) (q n : Nat) (hq : q + n ≤ b.length) : BytesAt w (.slice (cutA a q cap) n (cap - q)) ((b.drop q).take n) := by
  obtain ⟨a0, c0, e, h1, h2, h3, h4⟩ := h.open
  simp only [Value.slice.injEq] at e
  obtain ⟨rfl, rfl, rfl⟩ := e
  unfold cutA
  by_cases hc : cap = q
  · have hn : n = 0 := by omega
    subst hn
    rw [if_pos hc, hc, Nat.sub_self, List.take_zero]
    exact ⟨a, 0, rfl, by simp [BytesL.valB], by simp, fun _ => rfl, by simp [BytesL.valB]⟩
  · rw [if_neg hc]
    cases a with
    | none => obtain ⟨_, rfl, rfl⟩ := bytes_none h; simp at hq; exact absurd (by omega) hc
    | some x =>
      by_cases hb : b.length = 0
      · have hn : n = 0 := by omega
        have hq0 : q = 0 := by omega
        subst hn hq0
        rw [List.take_zero]
        exact ⟨_, cap, rfl, by simp [BytesL.valB], by omega, by simp, by simp [BytesL.valB]⟩
      · obtain ⟨bb, off, e, _⟩ := h4 0 (by omega)
        obtain rfl := Option.some.inj e
        have := bytes_cut h q n hq
        simpa [Go.WideShapes.add_plain] using this
theorem bytes_empty (w : World) (a : Addr) : BytesAt w (.slice (some a) 0 0) [] := ⟨some a, 0, rfl, by simp [BytesL.valB], by simp, by simp, by simp [BytesL.valB]⟩
theorem eqErr (W : World) (a b : Int) : (binOp .eql 29 (.iface 63 (.int .i64 a)) (.iface 63 (.int .i64 b))).run Tryd.prog W = .ok (.bool (a == b)) W := Lib.run_eql_iface_int W a b Tryd.underlying29 (by kernel_rfl) Tryd.underlying63
theorem eqNil (W : World) (v : Value) : (binOp .eql 29 .nilIface (.iface 63 v)).run Tryd.prog W = .ok (.bool false) W := run_eql_iface_nil_left W 63 v Tryd.underlying29
set_option maxRecDepth 100000 in
set_option maxHeartbeats 2000000 in
theorem fault_any {w0 w : World} {X : Nat} {v : Value} {b : List Int} {σ : Nat × Nat} (h : RS errN w0 w X v b σ) :
    Calls Tryd.prog 27 #[.pointer (some ⟨X, 0, none⟩)] w fun e w' => e = .returned (errN (ReadS.faultS b σ)) ∧ w = w' := by
  obtain ⟨c0, ⟨q, q1, q2, q3⟩, c2, f0, f1, f2⟩ := id h.rd
  obtain ⟨a0, cap, rfl, hc1, hc2, hnil, _⟩ := h.by0.open
  have hlen := h.len
  obtain ⟨p, e⟩ := σ
  simp only at c2
  have hE := eqErr
  have hN := eqNil
  obtain ⟨F, hF⟩ : ∃ F, ReadS.faultS b (p, e) = F := ⟨_, rfl⟩
  rw [hF]
  unfold ReadS.faultS at hF
  simp only at hF
  generalize b.length = L at *
  clear h hnil q3
  by_cases h0 : e = 0
  · subst h0
    have hf : F = 0 := by rw [← hF, if_neg (by omega)]
    subst hf
    rw [errN0] at c2 ⊢
    clear hF
    go_enter Tryd.func27, Tryd.ntmps27
    go_wp2
    go_ret
    exact ⟨rfl, rfl⟩
  · by_cases h8 : e = 8
    · subst h8
      rw [errN8] at c2
      by_cases hL : 20000 < L
      · have hf : F = 4 := by rw [← hF, if_pos ⟨rfl, hL⟩]
        subst hf
        rw [errN4]
        have hL' : (20000 : Int) < (L : Int) := by omega
        clear hF h0 hL
        go_enter Tryd.func27, Tryd.ntmps27
        go_wp2
        go_ret
        exact ⟨rfl, rfl⟩
      · have hf : F = 8 := by rw [← hF, if_neg (by omega)]
        subst hf
        rw [errN8]
        have hL' : (L : Int) ≤ 20000 := by omega
        clear hF h0 hL
        go_enter Tryd.func27, Tryd.ntmps27
        go_wp2
        go_ret
        exact ⟨rfl, rfl⟩
    · have hf : F = e := by rw [← hF, if_neg (fun h => h8 h.1)]
      subst hf
      rw [errNk h0] at c2 ⊢
      have h8' : ((F : Int) == 8) = false := bne_of (by omega)
      clear hF h0 h8
      go_enter Tryd.func27, Tryd.ntmps27
      go_wp2
      go_ret
      exact ⟨rfl, rfl⟩
set_option maxRecDepth 100000 in
set_option maxHeartbeats 4000000 in
theorem body_any {w0 w : World} {X : Nat} {v : Value} {b : List Int} {σ : Nat × Nat} (h : RS errN w0 w X v b σ) (n : Nat) (hn : n ≤ 100000) :
    Calls Tryd.prog 26 #[.pointer (some ⟨X, 0, none⟩), .int .i64 n] w fun e w' => (∃ a c, e = .returned (.slice a (ReadS.bodyS b n σ).1.length c) ∧ BytesL.Own w' w.heap.size (.slice a (ReadS.bodyS b n σ).1.length c) (ReadS.bodyS b n σ).1) ∧ RS errN w0 w' X v b (ReadS.bodyS b n σ).2 ∧ Mod (fun k => k = X) w w' := by
  have H := Lib.hid h
  obtain ⟨c0, ⟨q, q1, q2, q3⟩, c2, f0, f1, f2⟩ := id h.rd
  obtain ⟨a0, cap, rfl, hc1, hc2, hnil, _⟩ := h.by0.open
  have hlen := h.len
  have hok := h.ok
  have HBY := Lib.hid h.bytes
  obtain ⟨p, e⟩ := σ
  simp only at c2 hok q3
  by_cases h0 : e = 0
  · subst h0
    have hpq : q = p := q3 rfl
    subst hpq
    have hqL := hok rfl
    rw [errN0] at c2
    obtain ⟨L, hL⟩ : ∃ L, b.length = L := ⟨_, rfl⟩
    rw [hL] at c0 hqL hc1 hlen HBY
    have HL := Lib.hid hL
    obtain ⟨U, hU⟩ : ∃ U, ReadS.bodyS b n (q, 0) = U := ⟨_, rfl⟩
    rw [hU]
    unfold ReadS.bodyS at hU
    rw [if_neg (by simp), hL] at hU
    clear h hL q3 hok
    have i1 : IntKind.i64.wrap ((L : Int) - (q : Int)) = (L : Int) - (q : Int) := IntWalk.i64_in _ (by omega)
    by_cases hs : L - q < n
    · rw [if_pos hs] at hU
      have HU := Lib.hid hU
      have hs' : (L : Int) - (q : Int) < (n : Int) := by omega
      have hF := Lib.hid (fun m => (H.out.rd.drewN m).fault (e := 8) (by decide) 0)
      clear hU hs hnil
      go_enter Tryd.func26, Tryd.ntmps26
      go_wp2
      go_quiet (fail)
      go_wp2
      go_ret
      rw [← HU.out]
      exact ⟨⟨none, 0, rfl, BytesL.Own.nil _ _⟩, H.out.step (mod1 _ _ _ _ _) (hF.out _) (by intro h; cases h), mod1 _ _ _ _ _⟩
    · rw [if_neg hs] at hU
      have hs' : ¬ (L : Int) - (q : Int) < (n : Int) := by omega
      have i2 : IntKind.i64.wrap ((q : Int) + (n : Int)) = (q : Int) + (n : Int) := IntWalk.i64_in _ (by omega)
      have i3 : IntKind.i64.wrap ((q : Int) + (n : Int) - (n : Int)) = (q : Int) := by rw [IntWalk.i64_in _ (by omega)]; omega
      have i4 : (q : Int) + (n : Int) ≤ (cap : Int) := by omega
      have i5 : (q : Int) ≤ (q : Int) + (n : Int) := by omega
      have hul : U.1.length = n := by rw [← hU]; simp only [List.length_take, List.length_drop]; have := HL.out; omega
      have HUL := Lib.hid hul
      have HU := Lib.hid hU
      clear hU hs hul
      have hcast : ((q + n : Nat) : Int) = (q : Int) + (n : Int) := by omega
      have HRS := Lib.hid (fun m => H.out.step (τ := (q + n, 0)) (mod1 w m X 1 (.int .i64 ((q + n : Nat) : Int))) ((H.out.rd.drewN m).move (p := q + n) (by omega) rfl) (fun _ => by rw [HL.out]; show q + n ≤ L; omega))
      rw [hcast] at HRS
      have HMD := Lib.hid (fun m => mod1 w m X 1 (.int .i64 ((q : Int) + (n : Int))))
      have HCAST := Lib.hid hcast
      have hcl : Hid (∀ W, BytesAt W (.slice a0 L cap) b → Calls Tryd.prog 47 #[.slice (cutA a0 q cap) n (cap - q)] W fun e w' => ∃ a c, e = .returned (.slice a n c) ∧ BytesL.Own w' W.heap.size (.slice a n c) U.1 ∧ Below W.heap.size W w') := fun W hW => by
        refine (clone_any _ _ W (bytes_cutA hW q n (by rw [HL.out]; omega)) (by rw [List.length_take]; omega)).mono ?_
        rintro e w' ⟨v', rfl, hO, hB⟩
        have hu1 : U.1 = (b.drop q).take n := by rw [← HU.out]
        rw [← hu1] at hO
        obtain ⟨a, c, rfl, _⟩ := hO.slice
        rw [HUL.out] at hO ⊢
        exact ⟨a, c, rfl, hO, hB⟩
      have hu2 : Hid (U.2 = (q + n, 0)) := by show U.2 = _; rw [← HU.out]
      have hsl := fun W => slice_run a0 L cap q n (by omega) W
      have i6 : IntKind.i64.wrap (q : Int) = (q : Int) := IntWalk.i64_in _ (by omega)
      clear i4 i5 hcast
      go_enter Tryd.func26, Tryd.ntmps26
      go_wp2
      go_quiet (fail)
      go_wp2
      have HR1 := Lib.hid (HRS.out nq)
      have HM1 := Lib.hid (HMD.out nq)
      clear HRS HMD c0 c2 q2 f0 f1 f2
      generalize (w.drewN nq).setCell ⟨X, 1, none⟩ (.int .i64 ((q : Int) + (n : Int))) = w1 at *
      have d0 := HR1.out.rd.c0
      obtain ⟨q', _, d1, hqq⟩ := HR1.out.rd.c1
      have hqq' := hqq rfl
      simp only at hqq'
      rw [hqq', HCAST.out] at d1
      rw [HL.out] at d0
      have HB1 : Hid (BytesAt w1.drew (.slice a0 L cap) b) := by
        have h := HR1.out.bytes.below (Below.refl _ _).drew
        rw [HL.out] at h
        exact h
      have hX1 : X < w1.heap.size := block_lt_of_cell d0
      clear hqq hqq'
      go_region_held3 (fun w' => w'.cell? ⟨X, 0, none⟩ = some (.slice a0 L cap) ∧ w'.cell? ⟨X, 1, none⟩ = some (.int .i64 ((q : Int) + (n : Int)))) (first | exact ⟨d0, d1⟩ | exact ⟨k0, k1⟩)
        (first | (go_at_call 47; (refine (hcl.out _ HB1.out).mono ?_); rintro e w2 ⟨a, c, rfl, hat, hB⟩; have k0 := (hB.cell (p := ⟨X, 0, none⟩) hX1).trans d0; have k1 := (hB.cell (p := ⟨X, 1, none⟩) hX1).trans d1))
      go_wp2
      go_ret
      rw [HUL.out, hu2.out]
      have hB2 : Below w1.heap.size w1 w2 := (Below.refl _ _).drew.trans hB
      exact ⟨⟨_, _, rfl, hat.mono HM1.out.size⟩, HR1.out.below hB2, mod_below HM1.out hB2⟩
  · rw [errNk h0] at c2
    have E := Lib.hid h0
    have e1 : ReadS.bodyS b n (p, e) = ([], (p, e)) := if_pos h0
    rw [e1]
    clear h0 hok q3 h e1 hnil
    go_enter Tryd.func26, Tryd.ntmps26
    go_wp2
    go_ret
    exact ⟨⟨none, 0, rfl, BytesL.Own.nil _ _⟩, H.out, Mod.refl _ _⟩
end Go.Proofs.YtkohbbnnjakhjaaDoor.ReadC
