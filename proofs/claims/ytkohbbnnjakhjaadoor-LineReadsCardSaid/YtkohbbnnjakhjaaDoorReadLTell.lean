/-
  The reference's ReadTell.
  Conditions: where the bytes lie.
-/
import Derived.Test.YtkohbbnnjakhjaaDoorReadLAsk
import Derived.Test.YtkohbbnnjakhjaaDoorReadTell
import Derived.Test.YtkohbbnnjakhjaaDoorChunkRefC
import Derived.Deep.CutBlock
namespace Go.Proofs.YtkohbbnnjakhjaaDoor.ReadL
open Go.RowKit BA ChunkD ModL LineC ReadC RowsK FieldRows LineM ChunkR
set_option linter.unusedVariables false
set_option linter.unusedSimpArgs false

/-- The reference's reader at w.heap.size + 1, the reply at w.heap.size + 2, the result's cells at w.heap.size. -/
structure TS (w W : World) (v : Value) (b : List Int) (σ : Nat × Nat) (c0 c1 c2 : Value) : Prop where
  rs : RS bad w W (w.heap.size + 1) v b σ
  q : PS W (w.heap.size + 2) c0 c1 c2
  z : PS W w.heap.size (.int .i64 0) (.slice none 0 0) (.slice none 0 0)
theorem TS.go {w W W' : World} {v : Value} {b : List Int} {σ τ : Nat × Nat} {c0 c1 c2 : Value} (h : TS w W v b σ c0 c1 c2) (hR : RS bad w W' (w.heap.size + 1) v b τ) (hM : Mod (fun k => k = w.heap.size + 1) W W') : TS w W' v b τ c0 c1 c2 :=
  ⟨hR, h.q.mod hM (by omega), h.z.mod hM (by omega)⟩
theorem TS.below {w W W' : World} {v : Value} {b : List Int} {σ : Nat × Nat} {c0 c1 c2 : Value} (h : TS w W v b σ c0 c1 c2) (hB : Below W.heap.size W W') : TS w W' v b σ c0 c1 c2 :=
  ⟨h.rs.below hB, h.q.mod (X := W.heap.size) ⟨hB.os, hB.tape, hB.output, hB.size, fun k hk _ => hB.block k hk⟩ (by have := h.q.lt; omega), h.z.mod (X := W.heap.size) ⟨hB.os, hB.tape, hB.output, hB.size, fun k hk _ => hB.block k hk⟩ (by have := h.z.lt; omega)⟩
theorem TS.bad {w W : World} {v : Value} {b : List Int} {p e : Nat} {c0 c1 c2 : Value} (h : TS w W v b (p, e) c0 c1 c2) {k : Nat} (hk : k ≠ 0) (q : Nat) : TS w (W.setCell ⟨w.heap.size + 1, 2, none⟩ (.int .i64 k)) v b (q, k) c0 c1 c2 :=
  h.go (RS.set2 h.rs hk q) (modX _ _ _ _)
theorem PS.off {W : World} {Q P i : Nat} {c0 c1 c2 : Value} (h : PS W Q c0 c1 c2) (hne : Q ≠ P) (u : Value) : PS (W.setCell ⟨P, i, none⟩ u) Q c0 c1 c2 := h.mod (modX W P i u) hne
theorem TS.set0 {w W : World} {v : Value} {b : List Int} {σ : Nat × Nat} {c0 c1 c2 : Value} (h : TS w W v b σ c0 c1 c2) (u : Value) : TS w (W.setCell ⟨w.heap.size + 2, 0, none⟩ u) v b σ u c1 c2 :=
  ⟨h.rs.setQ (by omega) (by omega) _ _, h.q.set0 u, PS.off h.z (by omega) u⟩
theorem TS.set1 {w W : World} {v : Value} {b : List Int} {σ : Nat × Nat} {c0 c1 c2 : Value} (h : TS w W v b σ c0 c1 c2) (u : Value) : TS w (W.setCell ⟨w.heap.size + 2, 1, none⟩ u) v b σ c0 u c2 :=
  ⟨h.rs.setQ (by omega) (by omega) _ _, h.q.set1 u, PS.off h.z (by omega) u⟩
theorem TS.set2 {w W : World} {v : Value} {b : List Int} {σ : Nat × Nat} {c0 c1 c2 : Value} (h : TS w W v b σ c0 c1 c2) (u : Value) : TS w (W.setCell ⟨w.heap.size + 2, 2, none⟩ u) v b σ c0 c1 u :=
  ⟨h.rs.setQ (by omega) (by omega) _ _, h.q.set2 u, PS.off h.z (by omega) u⟩
theorem TS.start {w : World} {v : Value} {b : List Int} (hb : BytesAt w v b) (hbd : ∀ z ∈ b, 0 ≤ z ∧ z ≤ 255) (hlen : b.length ≤ 140737588355328) :
    TS w (((w.alloc (.cells #[.int .i64 0, .slice none 0 0, .slice none 0 0] 35)).alloc (.cells #[v, .int .i64 0, .int .i64 0] 48)).alloc (.cells #[.int .i64 0, .slice none 0 0, .slice none 0 0] 35)) v b (0, 0) (.int .i64 0) (.slice none 0 0) (.slice none 0 0) := by
  have e1 : (w.alloc (.cells #[.int .i64 0, .slice none 0 0, .slice none 0 0] 35)).heap.size = w.heap.size + 1 := by simp
  have e2 : ((w.alloc (.cells #[.int .i64 0, .slice none 0 0, .slice none 0 0] 35)).alloc (.cells #[v, .int .i64 0, .int .i64 0] 48)).heap.size = w.heap.size + 2 := by simp
  generalize h1 : w.alloc (.cells #[.int .i64 0, .slice none 0 0, .slice none 0 0] 35) = W1 at *
  generalize h2 : W1.alloc (.cells #[v, .int .i64 0, .int .i64 0] 48) = W2 at *
  generalize h3 : W2.alloc (.cells #[.int .i64 0, .slice none 0 0, .slice none 0 0] 35) = W3 at *
  have B1 : Below w.heap.size w W1 := by rw [← h1]; exact (Below.refl _ _).alloc (Nat.le_refl _) _
  have B2 : Below W1.heap.size W1 W2 := by rw [← h2]; exact (Below.refl _ _).alloc (Nat.le_refl _) _
  have B3 : Below W2.heap.size W2 W3 := by rw [← h3]; exact (Below.refl _ _).alloc (Nat.le_refl _) _
  have zc : ∀ i, W3.cell? ⟨w.heap.size, i, none⟩ = W1.cell? ⟨w.heap.size, i, none⟩ := fun i => (B3.cell (p := ⟨w.heap.size, i, none⟩) (by simp only; omega)).trans (B2.cell (p := ⟨w.heap.size, i, none⟩) (by simp only; omega))
  have zf : ∀ i, W3.frozen? ⟨w.heap.size, i, none⟩ = W1.frozen? ⟨w.heap.size, i, none⟩ := fun i => (B3.frozen (p := ⟨w.heap.size, i, none⟩) (by simp only; omega)).trans (B2.frozen (p := ⟨w.heap.size, i, none⟩) (by simp only; omega))
  have xc : ∀ i, W3.cell? ⟨w.heap.size + 1, i, none⟩ = W2.cell? ⟨W1.heap.size, i, none⟩ := fun i => by rw [← e1]; exact B3.cell (p := ⟨W1.heap.size, i, none⟩) (by simp only; omega)
  have xf : ∀ i, W3.frozen? ⟨w.heap.size + 1, i, none⟩ = W2.frozen? ⟨W1.heap.size, i, none⟩ := fun i => by rw [← e1]; exact B3.frozen (p := ⟨W1.heap.size, i, none⟩) (by simp only; omega)
  have qc : ∀ i, W3.cell? ⟨w.heap.size + 2, i, none⟩ = W3.cell? ⟨W2.heap.size, i, none⟩ := fun i => by rw [← e2]
  have qf : ∀ i, W3.frozen? ⟨w.heap.size + 2, i, none⟩ = W3.frozen? ⟨W2.heap.size, i, none⟩ := fun i => by rw [← e2]
  refine ⟨⟨?_, hb, hbd, hlen, by omega, ⟨?_, ⟨0, by omega, ?_, fun _ => rfl⟩, ?_, ?_, ?_, ?_⟩, fun _ => Nat.zero_le _⟩, ⟨?_, ?_, ?_, ?_, ?_, ?_⟩, ⟨?_, ?_, ?_, ?_, ?_, ?_⟩⟩
  · exact (B1.trans (B2.mono B1.size)).trans (B3.mono (Nat.le_trans B1.size B2.size))
  all_goals first | rw [zc, ← h1] | rw [zf, ← h1] | rw [xc, ← h2] | rw [xf, ← h2] | rw [qc, ← h3] | rw [qf, ← h3]
  all_goals first | (simp; done) | (simp; rfl)
/-- Bytes that came in, or a row of the call's own behind its three blocks. -/
def KB (w wx : World) (v : Value) (l : List Int) : Prop := BytesAt w v l ∨ ∃ B, w.heap.size + 2 < B ∧ BytesL.Own wx B v l
theorem KB.set {w wx : World} {v : Value} {l : List Int} (h : KB w wx v l) {P i : Nat} (hP : P ≤ w.heap.size + 2) (u : Value) : KB w (wx.setCell ⟨P, i, none⟩ u) v l := by
  rcases h with h | ⟨B, h1, h2⟩
  · exact .inl h
  · exact .inr ⟨B, h1, h2.setLow ⟨P, i, none⟩ (by simp only; omega) u⟩
theorem KB.drewN {w wx : World} {v : Value} {l : List Int} (h : KB w wx v l) (n : Nat) : KB w (wx.drewN n) v l := by
  rcases h with h | ⟨B, h1, h2⟩
  · exact .inl h
  · exact .inr ⟨B, h1, byte_drewN h2 n⟩
theorem KB.at {w wx : World} {v : Value} {l : List Int} (h : KB w wx v l) (hB : Below w.heap.size w wx) : BytesAt wx v l := by
  rcases h with h | ⟨B, h1, h2⟩
  · exact h.below hB
  · exact BytesAt.of_own h2
/-- What the reference's ReadTell gives. -/
def LTA (b : List Int) (bare closed : Bool) (w w' : World) (e : Ending) : Prop :=
  Below w.heap.size w w' ∧ ((ReadS.faultS b (ReadS.tellC b bare closed).2 = 0 ∧ ∃ (a : Option Addr) (n c : Nat) (a2 : Option Addr) (n2 c2 : Nat), e = .returned (.tuple #[rpV (ReadS.tellC b bare closed).1 (.slice a n c) (.slice a2 n2 c2), .int .i64 (ReadS.tellC b bare closed).2.1, .int .i64 0]) ∧ At encF w' (.slice a n c) (ReadS.tellC b bare closed).1.fields ∧ BytesAt w' (.slice a2 n2 c2) (ReadS.tellC b bare closed).1.body) ∨
    (ReadS.faultS b (ReadS.tellC b bare closed).2 ≠ 0 ∧ e = .returned (.tuple #[.agg #[.int .i64 0, .slice none 0 0, .slice none 0 0], .int .i64 0, .int .i64 (ReadS.faultS b (ReadS.tellC b bare closed).2)])))
theorem dec_nil {b : List Int} : ∀ f p body, (dec b f p body).2.2 ≠ 0 → (dec b f p body).1 = [] := by
  intro f
  induction f with
  | zero => intro p body h; rfl
  | succ f ih =>
    intro p body h
    obtain ⟨⟨n, q, e⟩, hn⟩ : ∃ x, num b p (8000 - body.length) (b.length + 1) p 0 = x := ⟨_, rfl⟩
    by_cases he : e = 0
    · subst he
      obtain ⟨⟨m, e1⟩, hm⟩ : ∃ x, mt b [13, 10] q = x := ⟨_, rfl⟩
      by_cases he1 : e1 = 0
      · subst he1
        obtain ⟨⟨m2, e2⟩, hm2⟩ : ∃ x, mt b [13, 10] (m + n) = x := ⟨_, rfl⟩
        by_cases he2 : e2 = 0
        · subst he2
          by_cases hn0 : n = 0
          · subst hn0
            rw [dec_end hn hm (by simpa using hm2)] at h
            exact absurd rfl h
          · rw [dec_step hn hm hm2 hn0] at h ⊢
            exact ih _ _ h
        · rw [dec_mt2 hn hm hm2 he2]
      · rw [dec_mt hn hm he1]
    · rw [dec_num hn he]
theorem cdS_all {b : List Int} : ∀ f i x, x.2.2 ≠ 0 → ReadS.cdS b f i x = x := fun f i x h => cdS_err h
set_option maxRecDepth 100000 in
set_option maxHeartbeats 16000000 in
theorem rreadTell_any (v : Value) (b : List Int) (w : World) (bare closed : Bool) (hb : BytesAt w v b) (hbd : ∀ z ∈ b, 0 ≤ z ∧ z ≤ 255) (hlen : b.length ≤ 140737588355328) :
    Calls Tryd.prog 9 #[v, .bool bare, .bool closed] w fun e w' => LTA b bare closed w w' e := by
  obtain ⟨a0, cap, rfl, hcap, -, hnil, -⟩ := hb.open
  have HT0 := Lib.hid (TS.start hb hbd hlen)
  have HB0 := Lib.hid hb
  have HBD := Lib.hid hbd
  obtain ⟨T, hT⟩ : ∃ T, ReadS.tellC b bare closed = T := ⟨_, rfl⟩
  obtain ⟨⟨p1, e1⟩, h1⟩ : ∃ τ, ReadS.mtS b [69, 68, 71, 69, 47, 49, 32] (0, 0) = τ := ⟨_, rfl⟩
  have HC1 := Lib.hid (fun W (hW : RS bad w W (w.heap.size + 1) (.slice a0 b.length cap) b (0, 0)) => lmatch_any hW ⟨#[69, 68, 71, 69, 47, 49, 32]⟩ (by decide))
  have s1 : sB ⟨#[69, 68, 71, 69, 47, 49, 32]⟩ = [69, 68, 71, 69, 47, 49, 32] := rfl
  simp only [s1, h1] at HC1
  obtain ⟨C, hC⟩ : ∃ C, ReadS.cdS b 3 0 (0, p1, e1) = C := ⟨_, rfl⟩
  have HCC := Lib.hid hC
  have hcode : ReadS.codeC b = C := by unfold ReadS.codeC; rw [h1]; exact hC
  have HCODE := Lib.hid hcode
  have HTT := Lib.hid hT
  obtain ⟨L, hL⟩ : ∃ L, b.length = L := ⟨_, rfl⟩
  have HL := Lib.hid hL
  rw [hL] at hlen hcap HT0 HC1 HB0 ⊢
  clear h1 s1 hC hcode hb hbd hT hL hnil
  go_enter Tryd.func9, Tryd.ntmps9
  go_upto_region 3 with fail
  generalize ((w.alloc (.cells #[.int .i64 0, .slice none 0 0, .slice none 0 0] 35)).alloc (.cells #[.slice a0 L cap, .int .i64 0, .int .i64 0] 48)).alloc (.cells #[.int .i64 0, .slice none 0 0, .slice none 0 0] 35) = W0 at *
  rw [show w.heap.size + 1 + 1 = w.heap.size + 2 from rfl]
  go_upto_block 0 with (first
    | (go_at_call 14; (with_reducible refine (HC1.out _ HT0.out.rs).mono ?_); rintro e w1 ⟨rfl, hR, hM⟩; have HT1 := Lib.hid (HT0.out.go hR hM); clear hR hM))
  go_cut [] from 11 (fun wx => Hid (∃ c p e : Nat, C = (c, p, e) ∧ c ≤ 1000 ∧ TS w wx (.slice a0 L cap) b (p, e) (.int .i64 c) (.slice none 0 0) (.slice none 0 0)))
  case first => as_aux_lemma =>
    go_wp2_with fail
    go_loopw [11] (fun iv wr => ∃ (i c p e : Nat), iv = .int .i64 i ∧ i ≤ 3 ∧ c ≤ 1000 ∧ (i = 0 → c = 0) ∧ (i = 1 → c ≤ 9) ∧ (i = 2 → c ≤ 99) ∧ Hid (TS w wr (.slice a0 L cap) b (p, e) (.int .i64 c) (.slice none 0 0) (.slice none 0 0) ∧ ReadS.cdS b (3 - i) i (c, p, e) = C)) (fun iv _ => 3 - (intOf iv).toNat)
    case atStart => exact ⟨0, 0, p1, e1, rfl, by omega, by omega, fun _ => rfl, by omega, by omega, HT1.out, HCC.out⟩
    case round =>
      obtain ⟨i, c, p, e, rfl, hi3, hc1000, hc0, hc1, hc2, HK⟩ := hrel
      obtain ⟨x0, ⟨q, x1, hq⟩, x2, f0, f1, f2⟩ := RS.cellsB HK.out.1.rs
      have HQ := Lib.hid hq
      clear hq
      by_cases hi : i < 3
      · obtain ⟨g, hg⟩ : ∃ g, 3 - i = g + 1 := ⟨2 - i, by omega⟩
        have hgn : 3 - (i + 1) = g := by omega
        have HGN := Lib.hid hgn
        have hi' : (i : Int) < 3 := by omega
        have HST : Hid (ReadS.cdS b (g + 1) i (c, p, e) = C) := by show _ = C; rw [← hg]; exact HK.out.2
        clear hg hgn
        by_cases h0 : e = 0
        · subst h0
          have hpq : q = p := HQ.out rfl
          subst hpq
          have hpL : q ≤ L := by rw [← HL.out]; exact HK.out.1.rs.ok rfl
          obtain ⟨g0, g1, g2, z0, z1, z2⟩ := HK.out.1.q
          have HEL := Lib.hid HK.out.1.rs.elems
          have HZZ := Lib.hid (fun k => getD_bd HBD.out k)
          by_cases hlt : q < L
          · obtain ⟨bb, off, rfl, hbb, hcell⟩ := HEL.out q (by rw [HL.out]; exact hlt)
            have hzz := HZZ.out q
            obtain ⟨z, hzk⟩ : ∃ z, b.getD q 0 = z := ⟨_, rfl⟩
            rw [hzk] at hcell hzz
            obtain ⟨hz0, hz1⟩ := hzz
            have HZK := Lib.hid hzk
            have HLB : Hid (q < b.length) := by show q < b.length; rw [HL.out]; exact hlt
            have i0 : (0 : Int) ≤ (q : Int) := by omega
            have i1 : (q : Int) < (L : Int) := by omega
            clear hzk
            have hcase : z < 48 ∨ 57 < z ∨ (48 ≤ z ∧ z ≤ 57 ∧ i = 0 ∧ z = 48) ∨ (48 ≤ z ∧ z ≤ 57 ∧ i = 0 ∧ 53 < z) ∨ (48 ≤ z ∧ z ≤ 57 ∧ i = 0 ∧ z ≠ 48 ∧ z ≤ 53) ∨ (48 ≤ z ∧ z ≤ 57 ∧ i ≠ 0) := by omega
            rcases hcase with q1 | q1 | ⟨q1, q2, q3, q4⟩ | ⟨q1, q2, q3, q4⟩ | ⟨q1, q2, q3, q4, q5⟩ | ⟨q1, q2, q3⟩
            · have HS8 : Hid (ReadS.cdS b g (i + 1) (c, q, 2) = C) := by
                show _ = C
                rw [cdS_err (by simp), ← HST.out, cdS_syn HLB.out (by rw [HZK.out]; exact .inl q1)]
              have HRS := Lib.hid (HK.out.1.bad (k := 2) (by decide) q)
              go_wp2
              go_roundw
              case rel => exact ⟨i + 1, c, q, 2, by go_num, by omega, by omega, by omega, by omega, by omega, HRS.out, by rw [HGN.out]; exact HS8.out⟩
              case measure => simp [intOf]; omega
            · have HS8 : Hid (ReadS.cdS b g (i + 1) (c, q, 2) = C) := by
                show _ = C
                rw [cdS_err (by simp), ← HST.out, cdS_syn HLB.out (by rw [HZK.out]; exact .inr (.inl q1))]
              have t1 : ¬ (z < 48) := by omega
              have HRS := Lib.hid (HK.out.1.bad (k := 2) (by decide) q)
              go_wp2
              go_roundw
              case rel => exact ⟨i + 1, c, q, 2, by go_num, by omega, by omega, by omega, by omega, by omega, HRS.out, by rw [HGN.out]; exact HS8.out⟩
              case measure => simp [intOf]; omega
            · have HS8 : Hid (ReadS.cdS b g (i + 1) (c, q, 2) = C) := by
                show _ = C
                rw [cdS_err (by simp), ← HST.out, cdS_syn HLB.out (by rw [HZK.out]; exact .inr (.inr ⟨q3, .inl q4⟩))]
              have t1 : ¬ (z < 48) := by omega
              have t2 : ¬ (57 < z) := by omega
              have t3 : ((i : Int) == 0) = true := by rw [q3]; rfl
              have t4 : z < 49 := by omega
              clear q1 q2 q3 q4
              have HRS := Lib.hid (HK.out.1.bad (k := 2) (by decide) q)
              go_wp2
              go_roundw
              case rel => exact ⟨i + 1, c, q, 2, by go_num, by omega, by omega, by omega, by omega, by omega, HRS.out, by rw [HGN.out]; exact HS8.out⟩
              case measure => simp [intOf]; omega
            · have HS8 : Hid (ReadS.cdS b g (i + 1) (c, q, 2) = C) := by
                show _ = C
                rw [cdS_err (by simp), ← HST.out, cdS_syn HLB.out (by rw [HZK.out]; exact .inr (.inr ⟨q3, .inr q4⟩))]
              have t1 : ¬ (z < 48) := by omega
              have t2 : ¬ (57 < z) := by omega
              have t3 : ((i : Int) == 0) = true := by rw [q3]; rfl
              have t4 : ¬ (z < 49) := by omega
              clear q1 q2 q3
              have HRS := Lib.hid (HK.out.1.bad (k := 2) (by decide) q)
              go_wp2
              go_roundw
              case rel => exact ⟨i + 1, c, q, 2, by go_num, by omega, by omega, by omega, by omega, by omega, HRS.out, by rw [HGN.out]; exact HS8.out⟩
              case measure => simp [intOf]; omega
            · obtain rfl : c = 0 := hc0 q3
              have t1 : ¬ (z < 48) := by omega
              have t2 : ¬ (57 < z) := by omega
              have t3 : ((i : Int) == 0) = true := by rw [q3]; rfl
              have t4 : ¬ (z < 49) := by omega
              have t5 : ¬ (53 < z) := by omega
              obtain ⟨d, hd⟩ : ∃ d : Nat, z = 48 + (d : Int) := ⟨(z - 48).toNat, by omega⟩
              have hdd : (z - 48).toNat = d := by omega
              have HS8 : Hid (ReadS.cdS b g (i + 1) (10 * 0 + d, q + 1, 0) = C) := by
                show _ = C
                rw [← HST.out, cdS_step HLB.out (by rw [HZK.out]; omega), HZK.out, hdd]
              have HDZ : Hid (((10 * 0 + d : Nat) : Int) = (z - 48)) := by show _ = _; omega
              have HD9 : Hid (d ≤ 9) := by show d ≤ 9; omega
              have v4 : IntKind.i64.wrap z = z := IntWalk.i64_in _ (by omega)
              have v5 : IntKind.i64.wrap (z - 48) = z - 48 := IntWalk.i64_in _ (by omega)
              have v6 : IntKind.i64.wrap ((q : Int) + 1) = (q : Int) + 1 := IntWalk.i64_in _ (by omega)
              have HRS := Lib.hid (fun n => (((HK.out.1.below (below_drewN (Below.refl _ _) n)).set0 (.int .i64 (z - 48))).go ((((HK.out.1.below (below_drewN (Below.refl _ _) n)).set0 (.int .i64 (z - 48))).rs.step (τ := (q + 1, 0)) (modX _ (w.heap.size + 1) 1 (.int .i64 ((q + 1 : Nat) : Int))) (((HK.out.1.below (below_drewN (Below.refl _ _) n)).set0 (.int .i64 (z - 48))).rs.rd.move (p := q + 1) (by omega) rfl) (fun _ => HLB.out))) (modX _ (w.heap.size + 1) 1 (.int .i64 ((q + 1 : Nat) : Int)))))
              have hcast2 : ((q + 1 : Nat) : Int) = (q : Int) + 1 := by omega
              rw [hcast2] at HRS
              clear hcast2 hdd hd q1 q2 q3 q4 q5 HK
              go_wp2
              go_region
              go_wp2
              go_roundw
              case rel => exact ⟨i + 1, 10 * 0 + d, q + 1, 0, by go_num, by omega, by have := HD9.out; omega, by omega, by have := HD9.out; omega, by have := HD9.out; omega, by rw [HDZ.out]; exact HRS.out _, by rw [HGN.out]; exact HS8.out⟩
              case measure => simp [intOf]; omega
            · have t1 : ¬ (z < 48) := by omega
              have t2 : ¬ (57 < z) := by omega
              have t3 : ((i : Int) == 0) = false := bne_of (by omega)
              obtain ⟨d, hd⟩ : ∃ d : Nat, z = 48 + (d : Int) := ⟨(z - 48).toNat, by omega⟩
              have hdd : (z - 48).toNat = d := by omega
              have HS8 : Hid (ReadS.cdS b g (i + 1) (10 * c + d, q + 1, 0) = C) := by
                show _ = C
                rw [← HST.out, cdS_step HLB.out (by rw [HZK.out]; omega), HZK.out, hdd]
              have HDZ : Hid (((10 * c + d : Nat) : Int) = ((c : Int) * 10 + z - 48)) := by show _ = _; omega
              have HD9 : Hid (d ≤ 9) := by show d ≤ 9; omega
              have v1 : IntKind.i64.wrap ((c : Int) * 10) = (c : Int) * 10 := IntWalk.i64_in _ (by omega)
              have v2 : IntKind.i64.wrap ((c : Int) * 10 + z) = (c : Int) * 10 + z := IntWalk.i64_in _ (by omega)
              have v3 : IntKind.i64.wrap ((c : Int) * 10 + z - 48) = (c : Int) * 10 + z - 48 := IntWalk.i64_in _ (by omega)
              have v4 : IntKind.i64.wrap z = z := IntWalk.i64_in _ (by omega)
              have v5 : IntKind.i64.wrap (z - 48) = z - 48 := IntWalk.i64_in _ (by omega)
              have v6 : IntKind.i64.wrap ((q : Int) + 1) = (q : Int) + 1 := IntWalk.i64_in _ (by omega)
              have HRS := Lib.hid (fun n => (((HK.out.1.below (below_drewN (Below.refl _ _) n)).set0 (.int .i64 ((c : Int) * 10 + z - 48))).go ((((HK.out.1.below (below_drewN (Below.refl _ _) n)).set0 (.int .i64 ((c : Int) * 10 + z - 48))).rs.step (τ := (q + 1, 0)) (modX _ (w.heap.size + 1) 1 (.int .i64 ((q + 1 : Nat) : Int))) (((HK.out.1.below (below_drewN (Below.refl _ _) n)).set0 (.int .i64 ((c : Int) * 10 + z - 48))).rs.rd.move (p := q + 1) (by omega) rfl) (fun _ => HLB.out))) (modX _ (w.heap.size + 1) 1 (.int .i64 ((q + 1 : Nat) : Int)))))
              have hcast2 : ((q + 1 : Nat) : Int) = (q : Int) + 1 := by omega
              rw [hcast2] at HRS
              clear hcast2 hdd hd q1 q2 q3 HK
              go_wp2
              go_region
              go_wp2
              go_roundw
              case rel => exact ⟨i + 1, 10 * c + d, q + 1, 0, by go_num, by omega, by have := HD9.out; omega, by omega, by have := HD9.out; omega, by have := HD9.out; omega, by rw [HDZ.out]; exact HRS.out _, by rw [HGN.out]; exact HS8.out⟩
              case measure => simp [intOf]; omega
          · have hp : (L : Int) ≤ (q : Int) := by omega
            have HS8 : Hid (ReadS.cdS b g (i + 1) (c, q, 8) = C) := by
              show _ = C
              rw [cdS_err (by simp), ← HST.out, cdS_short (by rw [HL.out]; omega)]
            have HRS := Lib.hid (HK.out.1.bad (k := 8) (by decide) q)
            go_wp2
            go_roundw
            case rel => exact ⟨i + 1, c, q, 8, by go_num, by omega, by omega, by omega, by omega, by omega, HRS.out, by rw [HGN.out]; exact HS8.out⟩
            case measure => simp [intOf]; omega
        · have t2 := cast_eq0 h0
          have HE : Hid (C = (c, p, e)) := by show C = _; rw [← HST.out]; exact cdS_err h0
          clear h0
          go_wp2
          go_meet
          case rel => exact ⟨c, p, e, HE.out, by omega, HK.out.1⟩
      · obtain rfl : i = 3 := by omega
        have HE : Hid (C = (c, p, e)) := HK.out.2.symm
        go_wp2
        go_meet
        case rel => exact ⟨c, p, e, HE.out, by omega, HK.out.1⟩
  case rest =>
  obtain ⟨c, p, e, hCe, hc1000, hTS⟩ := hcut.out
  have HT2 := Lib.hid hTS
  have HCE := Lib.hid hCe
  obtain ⟨Wa, hWa⟩ : ∃ Wa : World, Wa = wc := ⟨_, rfl⟩
  subst hWa
  obtain ⟨σ2, h2⟩ : ∃ τ, ReadS.mtS b [13, 10] (p, e) = τ := ⟨_, rfl⟩
  have HC2 := Lib.hid (fun W (hW : RS bad w W (w.heap.size + 1) (.slice a0 L cap) b (p, e)) => lmatch_any hW ⟨#[13, 10]⟩ (by decide))
  have s2 : sB ⟨#[13, 10]⟩ = [13, 10] := rfl
  simp only [s2, h2] at HC2
  obtain ⟨D, hD⟩ : ∃ D, ReadS.hdS b 0 true 42 [] σ2 = D := ⟨_, rfl⟩
  have HC3 := Lib.hid (fun W (hW : RS bad w W (w.heap.size + 1) (.slice a0 L cap) b σ2) => lhead_true hW 0 (by decide))
  have c1 : ((0 : Nat) : Int) = 0 := rfl
  simp only [hD, c1] at HC3
  have hdc : ReadS.headC b = D := by unfold ReadS.headC; rw [HCODE.out, hCe]; simp only; rw [h2, hD]
  obtain ⟨Y, hY⟩ : ∃ Y, ReadS.bodyC b bare closed c D = Y := ⟨_, rfl⟩
  have htell : T = (⟨c, D.l, Y.1⟩, Y.2) := by
    rw [← HTT.out]; unfold ReadS.tellC; rw [HCODE.out, hCe, hdc, hY]
  have HTELL := Lib.hid htell
  have HYY := Lib.hid hY
  obtain ⟨F, hF⟩ : ∃ F, ReadS.faultS b Y.2 = F := ⟨_, rfl⟩
  have HFF := Lib.hid hF
  have hFY : F = 0 → Y.2.2 = 0 := fun h => by
    rw [← hF] at h
    unfold ReadS.faultS at h
    split at h
    · cases h
    · exact h
  have HFY := Lib.hid hFY
  have hYS : D.σ.2 ≠ 0 → Y = ([], D.σ) := fun h => by
    rw [← hY]; unfold ReadS.bodyC; exact if_pos (.inl h)
  have HYS := Lib.hid hYS
  have HC10 := Lib.hid (fun W (hW : RS bad w W (w.heap.size + 1) (.slice a0 L cap) b D.σ) k hk => lbody_any hW k hk)
  have HC11 := Lib.hid (fun W (hW : RS bad w W (w.heap.size + 1) (.slice a0 L cap) b Y.2) => lfault_any hW)
  rw [hF] at HC11
  clear c1 s2 h2 hD hdc hY htell hF hFY hYS hCe hTS hcut HCC HT1 HC1 HT0
  obtain ⟨g0, g1, g2, z0, z1, z2⟩ := HT2.out.q
  go_upto_region 16 with (first
    | (go_at_call 14; (with_reducible refine (HC2.out _ HT2.out.rs).mono ?_); rintro e w3 ⟨rfl, hR, hM⟩; have HT3 := Lib.hid (HT2.out.go hR hM); have HB3 : Hid (w.heap.size + 2 < w3.heap.size) := HT3.out.q.lt; clear hR hM)
    | (go_at_call 16; (with_reducible refine (HC3.out _ HT3.out.rs).mono ?_); rintro e w4 ⟨⟨a, n, cc, k, pc, rfl, hh⟩, hR, hM⟩; have HT4 := Lib.hid (HT3.out.go hR hM); have HH := Lib.hid hh; clear g0 g1 g2 z0 z1 z2; obtain ⟨g0, g1, g2, z0, z1, z2⟩ := HT4.out.q; clear hR hM hh))
  have HT5 := Lib.hid (HT4.out.set1 (.slice a n cc))
  have hkk := And.intro HH.out.1 HH.out.2.1
  have HOW : Hid (D.σ.2 = 0 → Own encF (w4.setCell ⟨w.heap.size + 2, 1, none⟩ (.slice a n cc)) w3.heap.size 78 (.slice a n cc) D.l ∧ k = D.n ∧ pc = D.pieces) := fun h => ⟨own_setQ (HH.out.2.2 h).1 HB3.out _, (HH.out.2.2 h).2.1, (HH.out.2.2 h).2.2⟩
  clear HT2 HT3 HT4 HC2 HC3 HH g0 g1 g2 z0 z1 z2
  generalize w4.setCell ⟨w.heap.size + 2, 1, none⟩ (.slice a n cc) = W5 at *
  obtain ⟨g0, g1, g2, z0, z1, z2⟩ := HT5.out.q
  obtain ⟨D0, D1, D2, ⟨p9, e9⟩⟩ := D
  simp only at HOW HT5 HYS HC10 HTELL HYY
  obtain ⟨x0, ⟨q, x1, hq⟩, x2, f0, f1, f2⟩ := RS.cellsB HT5.out.rs
  have HQ := Lib.hid hq
  have hpL : e9 = 0 → p9 ≤ L := fun h => by rw [← HL.out]; exact HT5.out.rs.ok h
  have HPL := Lib.hid hpL
  clear hq hpL
  go_cut [144] from 15 (fun t wx => t = .bool (decide (e9 = 0 ∧ bare = false ∧ 200 ≤ c ∧ c ≠ 204 ∧ c ≠ 304)) ∧ W5 = wx)
  case first => as_aux_lemma =>
    by_cases h0 : e9 = 0
    · subst h0
      rcases bare with _ | _
      · by_cases hc1 : 200 ≤ c
        · have hc1' : (200 : Int) ≤ (c : Int) := by omega
          by_cases hc2 : c = 204
          · have hc2b : ((c : Int) != 204) = false := by rw [hc2]; rfl
            have hb : Hid (decide (0 = 0 ∧ false = false ∧ 200 ≤ c ∧ c ≠ 204 ∧ c ≠ 304) = false) := decide_eq_false (fun h => h.2.2.2.1 hc2)
            clear hc2
            go_wp2
            go_meet
            case rel => exact ⟨by rw [hb.out], rfl⟩
          · have hc2b : ((c : Int) != 204) = true := by rw [bne, bne_of (by omega)]; rfl
            by_cases hc3 : c = 304
            · have hc3b : ((c : Int) != 304) = false := by rw [hc3]; rfl
              have hb : Hid (decide (0 = 0 ∧ false = false ∧ 200 ≤ c ∧ c ≠ 204 ∧ c ≠ 304) = false) := decide_eq_false (fun h => h.2.2.2.2 hc3)
              clear hc3
              go_wp2
              go_meet
              case rel => exact ⟨by rw [hb.out], rfl⟩
            · have hc3b : ((c : Int) != 304) = true := by rw [bne, bne_of (by omega)]; rfl
              have hb : Hid (decide (0 = 0 ∧ false = false ∧ 200 ≤ c ∧ c ≠ 204 ∧ c ≠ 304) = true) := decide_eq_true ⟨rfl, rfl, hc1, hc2, hc3⟩
              go_wp2
              go_meet
              case rel => exact ⟨by rw [hb.out], rfl⟩
        · have hc1' : (c : Int) < 200 := by omega
          have hb : Hid (decide (0 = 0 ∧ false = false ∧ 200 ≤ c ∧ c ≠ 204 ∧ c ≠ 304) = false) := decide_eq_false (fun h => hc1 h.2.2.1)
          clear hc1
          go_wp2
          go_meet
          case rel => exact ⟨by rw [hb.out], rfl⟩
      · have hb : Hid (decide (0 = 0 ∧ true = false ∧ 200 ≤ c ∧ c ≠ 204 ∧ c ≠ 304) = false) := decide_eq_false (fun h => by cases h.2.1)
        go_wp2
        go_meet
        case rel => exact ⟨by rw [hb.out], rfl⟩
    · have t2 := cast_eq0 h0
      have hb : Hid (decide (e9 = 0 ∧ bare = false ∧ 200 ≤ c ∧ c ≠ 204 ∧ c ≠ 304) = false) := decide_eq_false (fun h => h0 h.1)
      clear h0
      go_wp2
      go_meet
      case rel => exact ⟨by rw [hb.out], rfl⟩
  case rest =>
  obtain ⟨rfl, rfl⟩ := hcut
  obtain ⟨GO, hGO⟩ : ∃ GO, decide (e9 = 0 ∧ bare = false ∧ 200 ≤ c ∧ c ≠ 204 ∧ c ≠ 304) = GO := ⟨_, rfl⟩
  have HGO := Lib.hid hGO
  rw [hGO]
  clear hGO
  go_upto_if 144 with fail
  go_cut [] from 15 (fun wx => Hid (∃ (a2 : Option Addr) (n2 c2 : Nat), TS w wx (.slice a0 L cap) b Y.2 (.int .i64 c) (.slice a n cc) (.slice a2 n2 c2) ∧ KB w wx (.slice a2 n2 c2) Y.1 ∧ (e9 = 0 → Own encF wx w3.heap.size 78 (.slice a n cc) D0)))
  case first => as_aux_lemma =>
    rcases GO with _ | _
    · have hno := of_decide_eq_false HGO.out
      have HY2 : Hid (Y = ([], (p9, e9))) := by
        show Y = _
        rw [← HYY.out]; unfold ReadS.bodyC
        refine if_pos ?_
        by_cases h0 : e9 = 0
        · rcases bare with _ | _
          · by_cases h1 : c < 200
            · exact .inr (.inr (.inl h1))
            · by_cases h2 : c = 204
              · exact .inr (.inr (.inr (.inl h2)))
              · by_cases h3 : c = 304
                · exact .inr (.inr (.inr (.inr h3)))
                · exact absurd ⟨h0, rfl, by omega, h2, h3⟩ hno
          · exact .inr (.inl rfl)
        · exact .inl h0
      clear hno
      go_wp2
      go_meet
      case rel => exact ⟨none, 0, 0, by rw [HY2.out]; exact HT5.out, by rw [HY2.out]; exact .inl (bytes_nil _), fun hd => (HOW.out hd).1⟩
    · obtain ⟨rfl, rfl, hc1, hc2, hc3⟩ := of_decide_eq_true HGO.out
      have hpq : q = p9 := HQ.out rfl
      subst hpq
      have hqL := HPL.out rfl
      clear x0 x1 x2 f0 f1 f2
      obtain ⟨x0, x1, x2, f0, f1, f2⟩ := RS.cells0 HT5.out.rs
      obtain ⟨hOwn, rfl, rfl⟩ := HOW.out rfl
      have HOwn := Lib.hid hOwn
      have hYc : Y = if pc = true then ((dec (b.drop q) ((b.drop q).length + 1) 0 []).1, (q + (dec (b.drop q) ((b.drop q).length + 1) 0 []).2.1, (dec (b.drop q) ((b.drop q).length + 1) 0 []).2.2)) else if 0 ≤ k then ReadS.bodyS b k.toNat (q, 0) else if 8000 < b.length - q then ([], (q, 4)) else if closed = false then ([], (q, 8)) else ReadS.bodyS b (b.length - q) (q, 0) := by
        rw [← HYY.out]; unfold ReadS.bodyC
        rw [if_neg]
        rintro (h | h | h | h | h)
        · exact h rfl
        · cases h
        · omega
        · exact hc2 h
        · exact hc3 h
      clear hOwn HGO hc1 hc2 hc3 HOW HYS HYY
      rcases pc with _ | _
      · rw [if_neg (by simp)] at hYc
        by_cases hk : 0 ≤ k
        · rw [if_pos hk] at hYc
          obtain ⟨kn, rfl⟩ : ∃ kn : Nat, k = kn := ⟨k.toNat, by omega⟩
          rw [Int.toNat_natCast] at hYc
          have HYC := Lib.hid hYc
          have HKN : Hid (kn ≤ 140737588355328) := by show kn ≤ _; omega
          clear hYc
          go_wp2_with (first
            | (go_at_call 17; (with_reducible refine (HC10.out _ HT5.out.rs kn HKN.out).mono ?_); rintro e w10 ⟨⟨a2, n2, c2, rfl, hby⟩, hR, hM⟩; have Hw10 := Lib.hid (HT5.out.go hR hM); have HBY := Lib.hid hby; have HMM := Lib.hid hM; clear g0 g1 g2 z0 z1 z2; obtain ⟨g0, g1, g2, z0, z1, z2⟩ := Hw10.out.q; clear hR hM hby; dsimp only))
          go_meet
          case rel =>
            refine ⟨a2, n2, c2, by rw [HYC.out]; exact Hw10.out.set2 _, by rw [HYC.out]; exact .inl HBY.out, fun hd => ?_⟩
            exact own_setQ (HOwn.out.of_block fun k hk => HMM.out.block k (HOwn.out.lt k hk).2 (fun e => by have h1 := (HOwn.out.lt k hk).1; have h2 := HB3.out; omega)) HB3.out _
        · rw [if_neg hk] at hYc
          have hk' : k < 0 := by omega
          have v1 : IntKind.i64.wrap ((L : Int) - (q : Int)) = (L : Int) - (q : Int) := IntWalk.i64_in _ (by omega)
          by_cases h8 : 8000 < L - q
          · rw [if_pos (by rw [HL.out]; exact h8)] at hYc
            have HYC := Lib.hid hYc
            have h8' : (8000 : Int) < (L : Int) - (q : Int) := by omega
            clear hYc hk h8
            go_wp2
            go_meet
            case rel => exact ⟨none, 0, 0, by rw [HYC.out]; exact HT5.out.bad (k := 4) (by decide) _, by rw [HYC.out]; exact .inl (bytes_nil _), fun hd => own_setQ HOwn.out (by have := HB3.out; omega) _⟩
          · rw [if_neg (by rw [HL.out]; exact h8)] at hYc
            have h8' : ¬ (8000 : Int) < (L : Int) - (q : Int) := by omega
            rcases closed with _ | _
            · rw [if_pos rfl] at hYc
              have HYC := Lib.hid hYc
              clear hYc hk h8
              go_wp2
              go_meet
              case rel => exact ⟨none, 0, 0, by rw [HYC.out]; exact HT5.out.bad (k := 8) (by decide) _, by rw [HYC.out]; exact .inl (bytes_nil _), fun hd => own_setQ HOwn.out (by have := HB3.out; omega) _⟩
            · rw [if_neg (by simp), HL.out] at hYc
              have HYC := Lib.hid hYc
              obtain ⟨kn, hkn⟩ : ∃ kn : Nat, (L : Int) - (q : Int) = kn := ⟨L - q, by omega⟩
              have hkn2 : L - q = kn := by omega
              rw [hkn2] at HYC
              have HKN : Hid (kn ≤ 140737588355328) := by show kn ≤ _; omega
              have HC12 := Lib.hid (fun W (hW : RS bad w W (w.heap.size + 1) (.slice a0 L cap) b (q, 0)) => HC10.out W hW kn HKN.out)
              rw [← hkn] at HC12
              clear hYc hk h8 hkn hkn2
              go_wp2_with (first
                | (go_at_call 17; (with_reducible refine (HC12.out _ HT5.out.rs).mono ?_); rintro e w10 ⟨⟨a2, n2, c2, rfl, hby⟩, hR, hM⟩; have Hw10 := Lib.hid (HT5.out.go hR hM); have HBY := Lib.hid hby; have HMM := Lib.hid hM; clear g0 g1 g2 z0 z1 z2; obtain ⟨g0, g1, g2, z0, z1, z2⟩ := Hw10.out.q; clear hR hM hby; dsimp only))
              go_meet
              case rel =>
                refine ⟨a2, n2, c2, by rw [HYC.out]; exact Hw10.out.set2 _, by rw [HYC.out]; exact .inl HBY.out, fun hd => ?_⟩
                exact own_setQ (HOwn.out.of_block fun k hk => HMM.out.block k (HOwn.out.lt k hk).2 (fun e => by have h1 := (HOwn.out.lt k hk).1; have h2 := HB3.out; omega)) HB3.out _
      · rw [if_pos rfl] at hYc
        have hsl := fun W => slice_fromT a0 L cap q hqL W
        have HUN := Lib.hid (fun W (hW : Below w.heap.size w W) => unchunk_any (cutA a0 q cap) (cap - q) (b.drop q) W (by
          have h := bytes_cutA (HB0.out.below hW) q (L - q) (by rw [HL.out]; omega)
          rw [show ((b.drop q).take (L - q)) = b.drop q from List.take_of_length_le (by have := HL.out; rw [List.length_drop]; omega)] at h
          rw [show (b.drop q).length = L - q from by rw [List.length_drop, HL.out]]
          exact h) (fun z hz => HBD.out z (List.mem_of_mem_drop hz)))
        have HDL : Hid ((dec (b.drop q) ((b.drop q).length + 1) 0 []).2.2 = 0 → (dec (b.drop q) ((b.drop q).length + 1) 0 []).2.1 ≤ L - q) := fun h => by
          have h2 := dec_le (b := b.drop q) ((b.drop q).length + 1) 0 [] (Nat.zero_le _) h
          rw [List.length_drop, HL.out] at h2
          rw [List.length_drop, HL.out]
          exact h2
        rw [show (b.drop q).length = L - q from by rw [List.length_drop, HL.out]] at HUN HDL hYc
        have HNIL := Lib.hid (dec_nil (b := b.drop q) (L - q + 1) 0 [])
        obtain ⟨DC, hDC⟩ : ∃ DC, dec (b.drop q) (L - q + 1) 0 [] = DC := ⟨_, rfl⟩
        rw [hDC] at HUN HDL hYc HNIL
        obtain ⟨xb, us, er⟩ := DC
        simp only at HUN HDL hYc HNIL
        have HYC := Lib.hid hYc
        clear hYc hDC
        by_cases her : er = 0
        · subst her
          have hus : us ≤ L - q := HDL.out rfl
          have v6 : IntKind.i64.wrap ((q : Int) + (us : Int)) = (q : Int) + (us : Int) := IntWalk.i64_in _ (by omega)
          go_wp2_with (first
            | (go_at_call 30; (with_reducible refine (HUN.out _ HT5.out.rs.bel).mono ?_); rintro e w10 ⟨hB, ⟨-, a1, c1, rfl, hO⟩ | ⟨h, -⟩⟩; rotate_left; exact absurd rfl h; have Hw10 := Lib.hid (HT5.out.below hB); have HO10 := Lib.hid hO; have HB10 := Lib.hid hB; clear g0 g1 g2 z0 z1 z2; obtain ⟨g0, g1, g2, z0, z1, z2⟩ := Hw10.out.q; clear x0 x1 x2 f0 f1 f2; obtain ⟨x0, x1, x2, f0, f1, f2⟩ := RS.cells0 Hw10.out.rs; clear hB hO; dsimp only))
          go_meet
          case rel =>
            have hcast : ((q + us : Nat) : Int) = (q : Int) + (us : Int) := by omega
            have hH5 : w.heap.size + 2 < W5.heap.size := HT5.out.q.lt
            have t1 := Hw10.out.set2 (.slice a1 xb.length c1)
            have t2 := t1.go (t1.rs.step (τ := (q + us, 0)) (modX _ (w.heap.size + 1) 1 (.int .i64 ((q + us : Nat) : Int))) (t1.rs.rd.move (p := q + us) (by omega) rfl) (fun _ => by rw [HL.out]; show q + us ≤ L; omega)) (modX _ (w.heap.size + 1) 1 (.int .i64 ((q + us : Nat) : Int)))
            have t3 := t2.go (t2.rs.step (τ := (q + us, 0)) (modX _ (w.heap.size + 1) 2 (.int .i64 0)) (by
              obtain ⟨j0, ⟨jq, j1, j2, j3⟩, j4, j5, j6, j7⟩ := t2.rs.rd
              exact ⟨(World.cell?_setCell_other _ _ _ _ (by simp)).trans j0, ⟨jq, j1, (World.cell?_setCell_other _ _ _ _ (by simp)).trans j2, j3⟩, World.cell?_setCell_same _ _ _ j4, by simpa using j5, by simpa using j6, by simpa using j7⟩) (fun _ => by rw [HL.out]; show q + us ≤ L; omega)) (modX _ (w.heap.size + 1) 2 (.int .i64 0))
            rw [hcast] at t3
            refine ⟨a1, xb.length, c1, by rw [HYC.out]; exact t3, by rw [HYC.out]; exact .inr ⟨W5.heap.size, hH5, ((HO10.out.setLow ⟨w.heap.size + 2, 2, none⟩ (by simp only; omega) _).setLow ⟨w.heap.size + 1, 1, none⟩ (by simp only; omega) _).setLow ⟨w.heap.size + 1, 2, none⟩ (by simp only; omega) _⟩, fun hd => ?_⟩
            have h3 := HB3.out
            exact own_setQ (own_setQ (own_setQ (HOwn.out.of_block fun k hk => HB10.out.block k (HOwn.out.lt k hk).2) h3 _) (by omega) _) (by omega) _
        · have HER := Lib.hid her
          have t9 := cast_eq0 her
          have v6 : IntKind.i64.wrap (q : Int) = (q : Int) := IntWalk.i64_in _ (by omega)
          clear her
          go_wp2_with (first
            | (go_at_call 30; (with_reducible refine (HUN.out _ HT5.out.rs.bel).mono ?_); rintro e w10 ⟨hB, ⟨h, -⟩ | ⟨-, rfl⟩⟩; exact absurd h HER.out; have Hw10 := Lib.hid (HT5.out.below hB); have HB10 := Lib.hid hB; clear g0 g1 g2 z0 z1 z2; obtain ⟨g0, g1, g2, z0, z1, z2⟩ := Hw10.out.q; clear x0 x1 x2 f0 f1 f2; obtain ⟨x0, x1, x2, f0, f1, f2⟩ := RS.cells0 Hw10.out.rs; clear hB; dsimp only))
          go_meet
          case rel =>
            have hx : xb = [] := HNIL.out HER.out
            have t1 := Hw10.out.set2 (.slice none 0 0)
            have t2 := t1.go (t1.rs.step (τ := (q, 0)) (modX _ (w.heap.size + 1) 1 (.int .i64 (q : Int))) (t1.rs.rd.move (p := q) (by omega) rfl) (fun _ => by rw [HL.out]; exact hqL)) (modX _ (w.heap.size + 1) 1 (.int .i64 (q : Int)))
            have t3 := t2.bad (k := er) HER.out (q + us)
            refine ⟨none, 0, 0, by rw [HYC.out]; exact t3, by rw [HYC.out, hx]; exact .inl (bytes_nil _), fun hd => ?_⟩
            have h3 := HB3.out
            exact own_setQ (own_setQ (own_setQ (HOwn.out.of_block fun k hk => HB10.out.block k (HOwn.out.lt k hk).2) h3 _) (by omega) _) (by omega) _
  case rest =>
  obtain ⟨a2, n2, c2, hTS, hKB, hOW⟩ := hcut.out
  have HT6 := Lib.hid hTS
  have HKB := Lib.hid hKB
  have HOW2 := Lib.hid hOW
  obtain ⟨We, hWe⟩ : ∃ We : World, We = wc := ⟨_, rfl⟩
  subst hWe
  clear hcut hTS hKB hOW HT5 HOW HC10 g0 g1 g2 z0 z1 z2 x0 x1 x2 f0 f1 f2 HGO
  obtain ⟨g0, g1, g2, z0, z1, z2⟩ := HT6.out.q
  obtain ⟨r0, r1, r2, y0, y1, y2⟩ := HT6.out.z
  by_cases hF0 : F = 0
  · subst hF0
    obtain ⟨yb, p10, e10⟩ := Y
    have he : e10 = 0 := HFY.out rfl
    subst he
    obtain ⟨d0, d1, d2, f0, f1, f2⟩ := RS.cells0 HT6.out.rs
    have HD0 : Hid (e9 = 0) := by
      show e9 = 0
      rcases Nat.eq_zero_or_pos e9 with h | h
      · exact h
      · have := HYS.out (by omega)
        injection this with h1 h2
        injection h2 with h3 h4
        exact h4.symm
    go_upto_region 32 with (first
      | (go_at_call 18; (with_reducible refine (HC11.out _ HT6.out.rs).mono ?_); rintro e w11 ⟨rfl, rfl⟩))
    go_region
    go_wp2
    refine bodyPost_ret (v := .tuple #[.agg #[.int .i64 c, .slice a n cc, .slice a2 n2 c2], .int .i64 p10, .int .i64 0]) (by simp [results, Tryd.results9, go_sem, r0, r1, r2]) rfl ⟨?_, .inl ⟨by rw [HTT.out, HTELL.out]; exact HFF.out, ?_⟩⟩
    · exact bel_set3 HT6.out.rs.bel (Nat.le_refl _) 1 _ _ _
    · rw [HTT.out, HTELL.out]
      exact ⟨a, n, cc, _, _, _, rfl, own_set3 (HOW2.out HD0.out) (by have := HB3.out; omega) 1 _ _ _, ((((HKB.out.drewN 1).set (by omega) _).set (by omega) _).set (by omega) _).at (bel_set3 HT6.out.rs.bel (Nat.le_refl _) 1 _ _ _)⟩
  · have HF0 := Lib.hid hF0
    have t9 := cast_eq0 hF0
    have t8 : ((F : Int) != 0) = true := by rw [bne, t9]; rfl
    clear hF0
    go_wp2_with (first
      | (go_at_call 18; (with_reducible refine (HC11.out _ HT6.out.rs).mono ?_); rintro e w11 ⟨rfl, rfl⟩))
    refine bodyPost_ret (v := .tuple #[.agg #[.int .i64 0, .slice none 0 0, .slice none 0 0], .int .i64 0, .int .i64 F]) (by simp [results, Tryd.results9, go_sem, r0, r1, r2]) rfl ⟨?_, .inr ⟨by rw [HTT.out, HTELL.out]; simp only; rw [HFF.out]; exact HF0.out, by rw [HTT.out, HTELL.out]; simp only; rw [HFF.out]⟩⟩
    exact (((HT6.out.rs.bel.setCell (Nat.le_refl _) _).setCell (Nat.le_refl _) _).setCell (Nat.le_refl _) _)
end Go.Proofs.YtkohbbnnjakhjaaDoor.ReadL
