/-
  line.ReadTell over this seat's translation.
  Conditions: where the bytes lie.
-/
import Derived.Test.YtkohbbnnjakhjaaDoorReadAsk
import Derived.Test.YtkohbbnnjakhjaaDoorChunkDec2
namespace Go.Proofs.YtkohbbnnjakhjaaDoor.ReadC
open Go.RowKit BA ChunkD ModL LineC RowsK FieldRows LineM
set_option linter.unusedVariables false
set_option linter.unusedSimpArgs false

/-- A reply's cells at block Q. -/
structure PS (W : World) (Q : Nat) (c0 c1 c2 : Value) : Prop where
  g0 : W.cell? ⟨Q, 0, none⟩ = some c0
  g1 : W.cell? ⟨Q, 1, none⟩ = some c1
  g2 : W.cell? ⟨Q, 2, none⟩ = some c2
  z0 : W.frozen? ⟨Q, 0, none⟩ = false
  z1 : W.frozen? ⟨Q, 1, none⟩ = false
  z2 : W.frozen? ⟨Q, 2, none⟩ = false
theorem PS.lt {W : World} {Q : Nat} {c0 c1 c2 : Value} (h : PS W Q c0 c1 c2) : Q < W.heap.size := block_lt_of_cell h.g0
theorem PS.mod {W W' : World} {Q X : Nat} {c0 c1 c2 : Value} (h : PS W Q c0 c1 c2) (hM : Mod (fun k => k = X) W W') (hne : Q ≠ X) : PS W' Q c0 c1 c2 :=
  have hl := h.lt
  ⟨(hM.cell (p := ⟨Q, 0, none⟩) hl hne).trans h.g0, (hM.cell (p := ⟨Q, 1, none⟩) hl hne).trans h.g1, (hM.cell (p := ⟨Q, 2, none⟩) hl hne).trans h.g2,
   (hM.frozen (p := ⟨Q, 0, none⟩) hl hne).trans h.z0, (hM.frozen (p := ⟨Q, 1, none⟩) hl hne).trans h.z1, (hM.frozen (p := ⟨Q, 2, none⟩) hl hne).trans h.z2⟩
theorem PS.drewN {W : World} {Q : Nat} {c0 c1 c2 : Value} (h : PS W Q c0 c1 c2) (n : Nat) : PS (W.drewN n) Q c0 c1 c2 := ⟨by simpa using h.g0, by simpa using h.g1, by simpa using h.g2, by simpa using h.z0, by simpa using h.z1, by simpa using h.z2⟩

theorem PS.set0 {W : World} {Q : Nat} {c0 c1 c2 : Value} (h : PS W Q c0 c1 c2) (u : Value) : PS (W.setCell ⟨Q, 0, none⟩ u) Q u c1 c2 :=
  ⟨World.cell?_setCell_same _ _ _ h.g0, (World.cell?_setCell_other _ _ _ _ (by simp)).trans h.g1, (World.cell?_setCell_other _ _ _ _ (by simp)).trans h.g2, by rw [frozen_set]; exact h.z0, by rw [frozen_set]; exact h.z1, by rw [frozen_set]; exact h.z2⟩

theorem PS.set1 {W : World} {Q : Nat} {c0 c1 c2 : Value} (h : PS W Q c0 c1 c2) (u : Value) : PS (W.setCell ⟨Q, 1, none⟩ u) Q c0 u c2 :=
  ⟨(World.cell?_setCell_other _ _ _ _ (by simp)).trans h.g0, World.cell?_setCell_same _ _ _ h.g1, (World.cell?_setCell_other _ _ _ _ (by simp)).trans h.g2, by rw [frozen_set]; exact h.z0, by rw [frozen_set]; exact h.z1, by rw [frozen_set]; exact h.z2⟩

theorem PS.set2 {W : World} {Q : Nat} {c0 c1 c2 : Value} (h : PS W Q c0 c1 c2) (u : Value) : PS (W.setCell ⟨Q, 2, none⟩ u) Q c0 c1 u :=
  ⟨(World.cell?_setCell_other _ _ _ _ (by simp)).trans h.g0, (World.cell?_setCell_other _ _ _ _ (by simp)).trans h.g1, World.cell?_setCell_same _ _ _ h.g2, by rw [frozen_set]; exact h.z0, by rw [frozen_set]; exact h.z1, by rw [frozen_set]; exact h.z2⟩

theorem cdS_err {b : List Int} {f i : Nat} {x : Nat × Nat × Nat} (h : x.2.2 ≠ 0) : ReadS.cdS b f i x = x := by
  cases f with
  | zero => rfl
  | succ f => rw [ReadS.cdS, if_pos h]
theorem cdS_short {b : List Int} {f i c p : Nat} (h1 : b.length ≤ p) : ReadS.cdS b (f + 1) i (c, p, 0) = (c, p, 8) := by rw [ReadS.cdS, if_neg (by simp), if_pos h1]
theorem cdS_syn {b : List Int} {f i c p : Nat} (h1 : p < b.length) (h2 : b.getD p 0 < 48 ∨ 57 < b.getD p 0 ∨ (i = 0 ∧ (b.getD p 0 = 48 ∨ 53 < b.getD p 0))) : ReadS.cdS b (f + 1) i (c, p, 0) = (c, p, 2) := by
  rw [ReadS.cdS, if_neg (by simp), if_neg (by simp only; omega), if_pos h2]
theorem cdS_step {b : List Int} {f i c p : Nat} (h1 : p < b.length) (h2 : ¬ (b.getD p 0 < 48 ∨ 57 < b.getD p 0 ∨ (i = 0 ∧ (b.getD p 0 = 48 ∨ 53 < b.getD p 0)))) : ReadS.cdS b (f + 1) i (c, p, 0) = ReadS.cdS b f (i + 1) (10 * c + (b.getD p 0 - 48).toNat, p + 1, 0) := by
  rw [ReadS.cdS, if_neg (by simp), if_neg (by simp only; omega), if_neg h2]
/-- The three digits: where the walk stands behind them. -/
def CD (w W0 W : World) (X Q : Nat) (v : Value) (b : List Int) (x : Nat × Nat × Nat) : Prop := RS errN w W X v b x.2 ∧ PS W Q (.int .i64 x.1) (.slice none 0 0) (.slice none 0 0) ∧ x.1 ≤ 1000

theorem own_set3 {W : World} {B Q : Nat} {v : Value} {l : List Fld} (h : Own encF W B 78 v l) (hQ : Q < B) (n : Nat) (u0 u1 u2 : Value) : At encF ((((W.drewN n).setCell ⟨Q, 0, none⟩ u0).setCell ⟨Q, 1, none⟩ u1).setCell ⟨Q, 2, none⟩ u2) v l :=
  (own_setQ (own_setQ (own_setQ (own_drewN h n) hQ u0) hQ u1) hQ u2).at_
theorem byte_set3 {W : World} {B Q : Nat} {v : Value} {l : List Int} (h : BytesL.Own W B v l) (hQ : Q < B) (n : Nat) (u0 u1 u2 : Value) : BytesAt ((((W.drewN n).setCell ⟨Q, 0, none⟩ u0).setCell ⟨Q, 1, none⟩ u1).setCell ⟨Q, 2, none⟩ u2) v l :=
  BytesAt.of_own ((((byte_drewN h n).setLow _ hQ u0).setLow _ hQ u1).setLow _ hQ u2)
theorem bel_set3 {w W : World} {Q : Nat} (h : Below w.heap.size w W) (hQ : w.heap.size ≤ Q) (n : Nat) (u0 u1 u2 : Value) : Below w.heap.size w ((((W.drewN n).setCell ⟨Q, 0, none⟩ u0).setCell ⟨Q, 1, none⟩ u1).setCell ⟨Q, 2, none⟩ u2) :=
  (((below_drewN h n).setCell hQ _).setCell hQ _).setCell hQ _

theorem dec_le {b : List Int} : ∀ f p body, p ≤ b.length → (dec b f p body).2.2 = 0 → (dec b f p body).2.1 ≤ b.length := by
  intro f
  induction f with
  | zero => intro p body _ h; simp [dec] at h
  | succ f ih =>
    intro p body hp h
    obtain ⟨⟨n, q, e⟩, hn⟩ : ∃ x, num b p (8000 - body.length) (b.length + 1) p 0 = x := ⟨_, rfl⟩
    by_cases he : e = 0
    · subst he
      obtain ⟨⟨m, e1⟩, hm⟩ : ∃ x, mt b [13, 10] q = x := ⟨_, rfl⟩
      by_cases he1 : e1 = 0
      · subst he1
        obtain ⟨⟨m2, e2⟩, hm2⟩ : ∃ x, mt b [13, 10] (m + n) = x := ⟨_, rfl⟩
        by_cases he2 : e2 = 0
        · subst he2
          have h2 := mt_ok (b := b) [13, 10] (m + n) (by rw [hm2])
          rw [hm2] at h2
          have h3 : m2 ≤ b.length := by have := h2.2 (by simp); have := h2.1; simp at *; omega
          by_cases hn0 : n = 0
          · subst hn0
            rw [dec_end hn hm (by simpa using hm2)] at h ⊢
            exact h3
          · rw [dec_step hn hm hm2 hn0] at h ⊢
            exact ih _ _ h3 h
        · rw [dec_mt2 hn hm hm2 he2] at h; exact absurd h he2
      · rw [dec_mt hn hm he1] at h; exact absurd h he1
    · rw [dec_num hn he] at h; exact absurd h he
set_option maxRecDepth 100000 in
theorem slice_fromT (a : Option Addr) (L cap q : Nat) (h : q ≤ L) (W : World) :
    (Instr.slice 22 (.slice a L cap) (some (.int .i64 (q : Int))) none none).run Tryd.prog W = .ok (.slice (cutA a q cap) (L - q) (cap - q)) W := by
  have hu : Tryd.prog.underlying 22 = some (.slice (Tryd.prog.elem 22)) := Tryd.underlying22
  have hs : (sizeOf (Tryd.prog.elem 22)).run Tryd.prog W = .ok 1 W := by kernel_rfl
  rw [run_slice_l (P := Tryd.prog) W 22 a L cap hu .i64 (q : Int) (by omega) (by omega), hs]
  simp only [Result.andThen, sliced]
  have e1 : ((q : Int)).toNat = q := by omega
  rw [e1, Nat.mul_one]
  rfl

/-- What ReadTell gives. -/
def TA (b : List Int) (bare closed : Bool) (w w' : World) (e : Ending) : Prop :=
  Below w.heap.size w w' ∧ ((ReadS.faultS b (ReadS.tellC b bare closed).2 = 0 ∧ ∃ (a : Option Addr) (n c : Nat) (a2 : Option Addr) (n2 c2 : Nat), e = .returned (.tuple #[rpV (ReadS.tellC b bare closed).1 (.slice a n c) (.slice a2 n2 c2), .int .i64 (ReadS.tellC b bare closed).2.1, .nilIface]) ∧ At encF w' (.slice a n c) (ReadS.tellC b bare closed).1.fields ∧ BytesAt w' (.slice a2 n2 c2) (ReadS.tellC b bare closed).1.body) ∨
    (ReadS.faultS b (ReadS.tellC b bare closed).2 ≠ 0 ∧ e = .returned (.tuple #[.agg #[.int .i64 0, .slice none 0 0, .slice none 0 0], .int .i64 0, errN (ReadS.faultS b (ReadS.tellC b bare closed).2)])))
set_option maxRecDepth 100000 in
set_option maxHeartbeats 16000000 in
theorem readTell_any (v : Value) (b : List Int) (w : World) (bare closed : Bool) (hb : BytesAt w v b) (hbd : ∀ z ∈ b, 0 ≤ z ∧ z ≤ 255) (hlen : b.length ≤ 140737588355328) :
    Calls Tryd.prog 10 #[v, .bool bare, .bool closed] w fun e w' => TA b bare closed w w' e := by
  obtain ⟨a0, cap, rfl, _, _, _, _⟩ := hb.open
  have HR0 := Lib.hid (RS.start hb hbd hlen (.cells #[.int .i64 0, .slice none 0 0, .slice none 0 0] 35))
  have HQ0 : Hid (PS ((w.alloc (.cells #[.int .i64 0, .slice none 0 0, .slice none 0 0] 35)).alloc (.cells #[.slice a0 b.length cap, .int .i64 0, .nilIface] 58)) w.heap.size (.int .i64 0) (.slice none 0 0) (.slice none 0 0)) := by
    constructor <;> simp
  have hne : w.heap.size ≠ w.heap.size + 1 := by omega
  have HNE := Lib.hid hne
  obtain ⟨⟨p1, e1⟩, h1⟩ : ∃ τ, ReadS.mtS b [69, 68, 71, 69, 47, 49, 32] (0, 0) = τ := ⟨_, rfl⟩
  have HC1 := Lib.hid (fun W (hW : RS errN w W (w.heap.size + 1) (.slice a0 b.length cap) b (0, 0)) => rmt_any hW ⟨#[69, 68, 71, 69, 47, 49, 32]⟩ (by decide))
  have s1 : sB ⟨#[69, 68, 71, 69, 47, 49, 32]⟩ = [69, 68, 71, 69, 47, 49, 32] := rfl
  simp only [s1, h1] at HC1
  obtain ⟨C, hC⟩ : ∃ C, ReadS.cdS b 3 0 (0, p1, e1) = C := ⟨_, rfl⟩
  have HCC := Lib.hid hC
  have hcode : ReadS.codeC b = C := by unfold ReadS.codeC; rw [h1]; exact hC
  have HCODE := Lib.hid hcode
  have hLen := hlen
  have HEL0 := Lib.hid hb
  clear h1 s1 hC hcode hb hbd hlen hne
  go_enter Tryd.func10, Tryd.ntmps10
  go_wp2_with (first
    | (go_at_call 22; (with_reducible refine (HC1.out _ HR0.out).mono ?_); rintro e w1 ⟨rfl, hR, hM⟩; have HR1 := Lib.hid hR; have HQ1 := Lib.hid (HQ0.out.mod hM HNE.out); clear hR hM))
  go_loopw [21] (fun iv wr => ∃ (i c p e : Nat), iv = .int .i64 i ∧ i ≤ 3 ∧ c ≤ 1000 ∧ (i = 0 → c = 0) ∧ (i = 1 → c ≤ 9) ∧ (i = 2 → c ≤ 99) ∧ Hid (RS errN w wr (w.heap.size + 1) (.slice a0 b.length cap) b (p, e) ∧ PS wr w.heap.size (.int .i64 c) (.slice none 0 0) (.slice none 0 0) ∧ ReadS.cdS b (3 - i) i (c, p, e) = C)) (fun iv _ => 3 - (intOf iv).toNat)
  case atStart => exact ⟨0, 0, p1, e1, rfl, by omega, by omega, fun _ => rfl, by omega, by omega, HR1.out, HQ1.out, HCC.out⟩
  case round =>
    obtain ⟨i, c, p, e, rfl, hi3, hc1000, hc0, hc1, hc2, HK⟩ := hrel
    by_cases hi : i < 3
    · obtain ⟨g, hg⟩ : ∃ g, 3 - i = g + 1 := ⟨2 - i, by omega⟩
      have hgn : 3 - (i + 1) = g := by omega
      by_cases h0 : e = 0
      · subst h0
        obtain ⟨x0, x1, x2, f0, f1, f2⟩ := HK.out.1.cells
        obtain ⟨g0, g1, g2, z0, z1, z2⟩ := HK.out.2.1
        have hpL : p ≤ b.length := HK.out.1.ok rfl
        have HST : Hid (ReadS.cdS b (g + 1) i (c, p, 0) = C) := by show ReadS.cdS b (g + 1) i (c, p, 0) = C; rw [← hg]; exact HK.out.2.2
        have hi' : (i : Int) < 3 := by omega
        by_cases hlt : p < b.length
        · obtain ⟨bb, off, rfl, hbb, hcell⟩ := HK.out.1.elems p (hlt)
          have hzz := getD_bd HK.out.1.bd p
          obtain ⟨z, hzk⟩ : ∃ z, b.getD p 0 = z := ⟨_, rfl⟩
          rw [hzk] at hcell hzz
          obtain ⟨hz0, hz1⟩ := hzz
          have HZK := Lib.hid hzk
          have HLB : Hid (p < b.length) := hlt
          have HGN := Lib.hid hgn
          have i0 : (0 : Int) ≤ (p : Int) := by omega
          have i1 : (p : Int) < (b.length : Int) := by omega
          clear hzk hgn hg hlt
          have hcase : z < 48 ∨ 57 < z ∨ (48 ≤ z ∧ z ≤ 57 ∧ i = 0 ∧ z = 48) ∨ (48 ≤ z ∧ z ≤ 57 ∧ i = 0 ∧ 53 < z) ∨ (48 ≤ z ∧ z ≤ 57 ∧ i = 0 ∧ z ≠ 48 ∧ z ≤ 53) ∨ (48 ≤ z ∧ z ≤ 57 ∧ i ≠ 0) := by omega
          rcases hcase with q1 | q1 | ⟨q1, q2, q3, q4⟩ | ⟨q1, q2, q3, q4⟩ | ⟨q1, q2, q3, q4, q5⟩ | ⟨q1, q2, q3⟩
          · skip
            have HS8 : Hid (ReadS.cdS b g (i + 1) (c, p, 2) = C) := by
              show _ = C
              rw [cdS_err (by simp), ← HST.out, cdS_syn HLB.out (by rw [HZK.out]; exact .inl q1)]
            have HRS := Lib.hid (HK.out.1.step (modX wr (w.heap.size + 1) 2 (errN 2)) (HK.out.1.rd.fault (e := 2) (by decide) p) (by intro h; cases h))
            have HPS := Lib.hid (HK.out.2.1.mod (modX wr (w.heap.size + 1) 2 (errN 2)) HNE.out)
            rw [errN2] at HRS HPS
            go_wp2
            go_roundw
            case rel => exact ⟨i + 1, c, p, 2, by go_num, by omega, by omega, by omega, by omega, by omega, HRS.out, HPS.out, by rw [HGN.out]; exact HS8.out⟩
            case measure => simp [intOf]; omega
          · have t1 : ¬ (z < 48) := by omega
            have HS8 : Hid (ReadS.cdS b g (i + 1) (c, p, 2) = C) := by
              show _ = C
              rw [cdS_err (by simp), ← HST.out, cdS_syn HLB.out (by rw [HZK.out]; exact .inr (.inl q1))]
            have HRS := Lib.hid (HK.out.1.step (modX wr (w.heap.size + 1) 2 (errN 2)) (HK.out.1.rd.fault (e := 2) (by decide) p) (by intro h; cases h))
            have HPS := Lib.hid (HK.out.2.1.mod (modX wr (w.heap.size + 1) 2 (errN 2)) HNE.out)
            rw [errN2] at HRS HPS
            go_wp2
            go_roundw
            case rel => exact ⟨i + 1, c, p, 2, by go_num, by omega, by omega, by omega, by omega, by omega, HRS.out, HPS.out, by rw [HGN.out]; exact HS8.out⟩
            case measure => simp [intOf]; omega
          · have t1 : ¬ (z < 48) := by omega
            have t2 : ¬ (57 < z) := by omega
            have t3 : ((i : Int) == 0) = true := by rw [q3]; rfl
            have t4 : (z == 48) = true := by rw [q4]; rfl
            have HS8 : Hid (ReadS.cdS b g (i + 1) (c, p, 2) = C) := by
              show _ = C
              rw [cdS_err (by simp), ← HST.out, cdS_syn HLB.out (by rw [HZK.out]; exact .inr (.inr ⟨q3, .inl q4⟩))]
            clear q1 q2 q3 q4
            have HRS := Lib.hid (HK.out.1.step (modX wr (w.heap.size + 1) 2 (errN 2)) (HK.out.1.rd.fault (e := 2) (by decide) p) (by intro h; cases h))
            have HPS := Lib.hid (HK.out.2.1.mod (modX wr (w.heap.size + 1) 2 (errN 2)) HNE.out)
            rw [errN2] at HRS HPS
            go_wp2
            go_roundw
            case rel => exact ⟨i + 1, c, p, 2, by go_num, by omega, by omega, by omega, by omega, by omega, HRS.out, HPS.out, by rw [HGN.out]; exact HS8.out⟩
            case measure => simp [intOf]; omega
          · have t1 : ¬ (z < 48) := by omega
            have t2 : ¬ (57 < z) := by omega
            have t3 : ((i : Int) == 0) = true := by rw [q3]; rfl
            have t4 : (z == 48) = false := bne_of (by omega)
            have HS8 : Hid (ReadS.cdS b g (i + 1) (c, p, 2) = C) := by
              show _ = C
              rw [cdS_err (by simp), ← HST.out, cdS_syn HLB.out (by rw [HZK.out]; exact .inr (.inr ⟨q3, .inr q4⟩))]
            clear q1 q2 q3
            have HRS := Lib.hid (HK.out.1.step (modX wr (w.heap.size + 1) 2 (errN 2)) (HK.out.1.rd.fault (e := 2) (by decide) p) (by intro h; cases h))
            have HPS := Lib.hid (HK.out.2.1.mod (modX wr (w.heap.size + 1) 2 (errN 2)) HNE.out)
            rw [errN2] at HRS HPS
            go_wp2
            go_roundw
            case rel => exact ⟨i + 1, c, p, 2, by go_num, by omega, by omega, by omega, by omega, by omega, HRS.out, HPS.out, by rw [HGN.out]; exact HS8.out⟩
            case measure => simp [intOf]; omega
          · obtain rfl : c = 0 := hc0 q3
            have t3 : ((i : Int) == 0) = true := by rw [q3]; rfl
            obtain ⟨d, rfl⟩ : ∃ d : Nat, z = 48 + (d : Int) := ⟨(z - 48).toNat, by omega⟩
            have t4 : (48 + (d : Int) == 48) = false := bne_of q4
            have t5 : ¬ (53 < 48 + (d : Int)) := by omega
            have hd9 : d ≤ 9 := by omega
            have t1 : ¬ (48 + (d : Int) < 48) := by omega
            have t2 : ¬ (57 < 48 + (d : Int)) := by omega
            have e1 : (48 + (d : Int) - 48).toNat = d := by omega
            have e2 : (48 + (d : Int) - 48) = (d : Int) := by omega
            have v3 : IntKind.i64.wrap (d : Int) = (d : Int) := IntWalk.i64_in _ (by omega)
            have v4 : IntKind.u8.wrap (d : Int) = (d : Int) := by unfold IntKind.wrap; simp [IntKind.bits]; omega
            have v5 : IntKind.u8.wrap (48 + (d : Int) - 48) = (d : Int) := by rw [e2]; exact v4
            have HRS := Lib.hid (((HK.out.1.setQ (Nat.le_refl _) HNE.out 0 (.int .i64 (d : Int))).step (τ := (p + 1, 0)) (modX _ (w.heap.size + 1) 1 (.int .i64 ((p + 1 : Nat) : Int))) ((HK.out.1.setQ (Nat.le_refl _) HNE.out 0 (.int .i64 (d : Int))).rd.move (p := p + 1) (by omega) rfl) (fun _ => HLB.out)).below (Below.refl _ _).drew)
            have HPS := Lib.hid (((HK.out.2.1.set0 (.int .i64 (d : Int))).mod (modX _ (w.heap.size + 1) 1 (.int .i64 ((p + 1 : Nat) : Int))) HNE.out).mod (X := w.heap.size + 1) (Mod.refl _ _).drew HNE.out)
            have hcast2 : ((p + 1 : Nat) : Int) = (p : Int) + 1 := by omega
            rw [hcast2] at HRS HPS
            have HS8 : Hid (ReadS.cdS b g (i + 1) (d, p + 1, 0) = C) := by
              show _ = C
              rw [← HST.out, cdS_step HLB.out (by rw [HZK.out]; omega), HZK.out, e1, Nat.mul_zero, Nat.zero_add]
            clear hcast2 e1
            go_wp2
            go_region
            go_wp2
            go_roundw
            case rel => exact ⟨i + 1, d, p + 1, 0, by go_num, by omega, by omega, by omega, by omega, by omega, HRS.out, HPS.out, by rw [HGN.out]; exact HS8.out⟩
            case measure => simp [intOf]; omega
          · have t3 : ((i : Int) == 0) = false := bne_of (by omega)
            obtain ⟨d, rfl⟩ : ∃ d : Nat, z = 48 + (d : Int) := ⟨(z - 48).toNat, by omega⟩
            have hd9 : d ≤ 9 := by omega
            have t1 : ¬ (48 + (d : Int) < 48) := by omega
            have t2 : ¬ (57 < 48 + (d : Int)) := by omega
            have e1 : (48 + (d : Int) - 48).toNat = d := by omega
            have e2 : (48 + (d : Int) - 48) = (d : Int) := by omega
            have v1 : IntKind.i64.wrap (10 * (c : Int)) = 10 * (c : Int) := IntWalk.i64_in _ (by omega)
            have v2 : IntKind.i64.wrap (10 * (c : Int) + (d : Int)) = 10 * (c : Int) + (d : Int) := IntWalk.i64_in _ (by omega)
            have v3 : IntKind.i64.wrap (d : Int) = (d : Int) := IntWalk.i64_in _ (by omega)
            have v4 : IntKind.u8.wrap (d : Int) = (d : Int) := by unfold IntKind.wrap; simp [IntKind.bits]; omega
            have v5 : IntKind.u8.wrap (48 + (d : Int) - 48) = (d : Int) := by rw [e2]; exact v4
            have HRS := Lib.hid (((HK.out.1.setQ (Nat.le_refl _) HNE.out 0 (.int .i64 (10 * (c : Int) + (d : Int)))).step (τ := (p + 1, 0)) (modX _ (w.heap.size + 1) 1 (.int .i64 ((p + 1 : Nat) : Int))) ((HK.out.1.setQ (Nat.le_refl _) HNE.out 0 (.int .i64 (10 * (c : Int) + (d : Int)))).rd.move (p := p + 1) (by omega) rfl) (fun _ => HLB.out)).below (Below.refl _ _).drew)
            have HPS := Lib.hid (((HK.out.2.1.set0 (.int .i64 (10 * (c : Int) + (d : Int)))).mod (modX _ (w.heap.size + 1) 1 (.int .i64 ((p + 1 : Nat) : Int))) HNE.out).mod (X := w.heap.size + 1) (Mod.refl _ _).drew HNE.out)
            have hcast2 : ((p + 1 : Nat) : Int) = (p : Int) + 1 := by omega
            rw [hcast2] at HRS HPS
            have HS8 : Hid (ReadS.cdS b g (i + 1) (10 * c + d, p + 1, 0) = C) := by
              show _ = C
              rw [← HST.out, cdS_step HLB.out (by rw [HZK.out]; omega), HZK.out, e1]
            clear hcast2 e1
            go_wp2
            go_region
            go_wp2
            go_roundw
            case rel => exact ⟨i + 1, 10 * c + d, p + 1, 0, by go_num, by omega, by omega, by omega, by omega, by omega, HRS.out, by rw [show ((10 * c + d : Nat) : Int) = 10 * (c : Int) + (d : Int) by omega]; exact HPS.out, by rw [HGN.out]; exact HS8.out⟩
            case measure => simp [intOf]; omega
        · have hp : (b.length : Int) ≤ (p : Int) := by omega
          have HS8 : Hid (ReadS.cdS b g (i + 1) (c, p, 8) = C) := by
            show _ = C
            rw [cdS_err (by simp), ← HST.out, cdS_short (by omega)]
          have HRS := Lib.hid (HK.out.1.step (modX wr (w.heap.size + 1) 2 (errN 8)) (HK.out.1.rd.fault (e := 8) (by decide) p) (by intro h; cases h))
          have HPS := Lib.hid (HK.out.2.1.mod (modX wr (w.heap.size + 1) 2 (errN 8)) HNE.out)
          rw [errN8] at HRS HPS
          have HGN := Lib.hid hgn
          clear hgn hg
          go_wp2
          go_roundw
          case rel => exact ⟨i + 1, c, p, 8, by go_num, by omega, by omega, by omega, by omega, by omega, HRS.out, HPS.out, by rw [HGN.out]; exact HS8.out⟩
          case measure => simp [intOf]; omega
      · have x2 := (HK.out.1.cellsE h0).2.2.1
        have hi' : (i : Int) < 3 := by omega
        have HS8 : Hid (ReadS.cdS b g (i + 1) (c, p, e) = C) := by
          show _ = C
          rw [cdS_err h0, ← HK.out.2.2, hg, cdS_err h0]
        have HGN := Lib.hid hgn
        have HE := Lib.hid h0
        clear hgn hg h0
        go_wp2
        go_roundw
        case rel => exact ⟨i + 1, c, p, e, by go_num, by omega, by omega, by omega, by omega, by omega, HK.out.1, HK.out.2.1, by rw [HGN.out]; exact HS8.out⟩
        case measure => simp [intOf]; omega
    · obtain rfl : i = 3 := by omega
      have hCe : C = (c, p, e) := HK.out.2.2.symm
      obtain ⟨σ2, h2⟩ : ∃ τ, ReadS.mtS b [13, 10] (p, e) = τ := ⟨_, rfl⟩
      have HC2 := Lib.hid (fun W (hW : RS errN w W (w.heap.size + 1) (.slice a0 b.length cap) b (p, e)) => rmt_any hW ⟨#[13, 10]⟩ (by decide))
      have s2 : sB ⟨#[13, 10]⟩ = [13, 10] := rfl
      simp only [s2, h2] at HC2
      obtain ⟨D, hD⟩ : ∃ D, ReadS.hdS b 0 true 42 [] σ2 = D := ⟨_, rfl⟩
      have HC3 := Lib.hid (fun W (hW : RS errN w W (w.heap.size + 1) (.slice a0 b.length cap) b σ2) => head_true hW 0 (by decide))
      have c1 : ((0 : Nat) : Int) = 0 := rfl
      simp only [hD, c1] at HC3
      have hdc : ReadS.headC b = D := by unfold ReadS.headC; rw [HCODE.out, hCe]; simp only; rw [h2, hD]
      have htell : ReadS.tellC b bare closed = (⟨c, D.l, (ReadS.bodyC b bare closed c D).1⟩, (ReadS.bodyC b bare closed c D).2) := by
        unfold ReadS.tellC; rw [HCODE.out, hCe, hdc]
      have HTELL := Lib.hid htell
      have HRK := Lib.hid HK.out.1
      have HPK := Lib.hid HK.out.2.1
      have HDOK : Hid (ReadS.Ok b D.σ) := by show ReadS.Ok b D.σ; rw [← hD]; exact ReadS.hdS_ok 42 [] σ2 (by rw [← h2]; exact ReadS.mtS_ok HK.out.1.ok)
      clear htell hdc hD h2 s2 c1 hCe hi hi3 hc0 hc1 hc2 HK
      by_cases hs : D.σ.2 = 0
      · obtain ⟨dn, hdn⟩ : ∃ x, D.n = x := ⟨_, rfl⟩
        obtain ⟨dk, hdk⟩ : ∃ x, D.pieces = x := ⟨_, rfl⟩
        obtain ⟨dl, hdl⟩ : ∃ x, D.l = x := ⟨_, rfl⟩
        obtain ⟨⟨p9, e9⟩, hσ9⟩ : ∃ τ, D.σ = τ := ⟨_, rfl⟩
        have HC3 := Lib.hid (fun W hW => (HC3.out W hW).mono (R' := fun e w' => (∃ (a : Option Addr) (n c : Nat), e = .returned (.tuple #[.slice a n c, .int .i64 dn, .bool dk]) ∧ Own encF w' W.heap.size 78 (.slice a n c) dl ∧ dn ≤ 100000) ∧ RS errN w w' (w.heap.size + 1) (.slice a0 b.length cap) b D.σ ∧ Mod (fun k => k = w.heap.size + 1) W w') (by
          rintro e w' ⟨⟨a, n, c, m, k, he, hh⟩, h1, h2⟩
          have hm := (hh.2.2 hs).2.1
          have hk := (hh.2.2 hs).2.2
          have ho := (hh.2.2 hs).1
          have h3 := hh.2.1
          rw [hdn] at hm
          rw [hdk] at hk
          rw [hdl] at ho
          subst hm hk
          exact ⟨⟨a, n, c, he, ho, h3⟩, h1, h2⟩))
        have he9 : e9 = 0 := by rw [hσ9] at hs; exact hs
        subst he9
        rw [hσ9] at HC3 HDOK
        have hD : D = ⟨dl, dn, dk, (p9, 0)⟩ := by rw [← hdl, ← hdn, ← hdk, ← hσ9]
        rw [hD] at HTELL
        clear hdn hdk hdl hσ9 hs hD
        simp only at HTELL
        have hf0 : ReadS.faultS b (p9, 0) = 0 := if_neg (by simp)
        have HFZ := Lib.hid hf0
        clear hf0
        by_cases hN : bare = true ∨ c < 200 ∨ c = 204 ∨ c = 304
        · have hA : ReadS.tellC b bare closed = (⟨c, dl, []⟩, (p9, 0)) := by
            rw [HTELL.out, show ReadS.bodyC b bare closed c ⟨dl, dn, dk, (p9, 0)⟩ = ([], (p9, 0)) from if_pos (.inr hN)]
          have HA := Lib.hid hA
          have HF0 : Hid (ReadS.faultS b (p9, 0) = 0) := HFZ.out
          have HC11 := Lib.hid (fun W (hW : RS errN w W (w.heap.size + 1) (.slice a0 b.length cap) b (p9, 0)) => fault_any hW)
          rw [HFZ.out, errN0] at HC11
          have hcase : bare = true ∨ (bare = false ∧ c < 200) ∨ (bare = false ∧ c = 204) ∨ (bare = false ∧ c = 304) := by
            cases bare
            · rcases hN with h | h | h | h
              · cases h
              · exact .inr (.inl ⟨rfl, h⟩)
              · exact .inr (.inr (.inl ⟨rfl, h⟩))
              · exact .inr (.inr (.inr ⟨rfl, h⟩))
            · exact .inl rfl
          clear hA hN
          rcases hcase with rfl | ⟨rfl, hc⟩ | ⟨rfl, hc⟩ | ⟨rfl, hc⟩
          all_goals
            try (have hc' : (c : Int) < 200 := by omega)
            try (have t0 : ¬ ((c : Int) < 200) := by omega)
            try (have t1 : ((c : Int) == 204) = true := by rw [hc]; rfl)
            try (have t2 : ((c : Int) == 204) = false := bne_of (by omega))
            try (have t3 : ((c : Int) == 304) = true := by rw [hc]; rfl)
            try (have HCQ := Lib.hid hc)
            try (clear hc)
            go_wp2_with (first
              | (go_at_call 22; (with_reducible refine (HC2.out _ HRK.out).mono ?_); rintro e w2 ⟨rfl, hR, hM⟩; have HR2 := Lib.hid hR; have HQ2 := Lib.hid (HPK.out.mod hM HNE.out); clear hR hM))
            (with_reducible refine (HC3.out _ HR2.out).mono ?_)
            rintro e w3 ⟨⟨a, n, cc, rfl, hAt, hdn⟩, hR, hM⟩
            have HB8 : Hid (w.heap.size < w2.heap.size) := by show w.heap.size < w2.heap.size; have := HR2.out.rd.lt; omega
            have HX8 : Hid (w.heap.size + 1 < w2.heap.size) := HR2.out.rd.lt
            have HAT := Lib.hid (own_setQ (i := 1) hAt HB8.out (.slice a n cc))
            have HR3 := Lib.hid (hR.setQ (Nat.le_refl _) HNE.out 1 (.slice a n cc))
            have HQ3 := Lib.hid ((HQ2.out.mod hM HNE.out).set1 (.slice a n cc))
            have HS3 := Lib.hid hM.size
            have HDN := Lib.hid hdn
            obtain ⟨g0, g1, g2, z0, z1, z2⟩ := HQ2.out.mod hM HNE.out
            obtain ⟨x0, x1, x2, f0, f1, f2⟩ := hR.cells
            clear hR hM hAt hdn
            go_simp
            go_wp2_with (first
              | (go_at_call 27; (with_reducible refine (HC11.out _ HR3.out).mono ?_); rintro e w11 ⟨rfl, rfl⟩))
            clear g0 g1 g2 z0 z1 z2 x0 x1 x2 f0 f1 f2
            have HBW := Lib.hid HR3.out.bel
            have x1 := HR3.out.cells.2.1
            obtain ⟨g0, g1, g2, z0, z1, z2⟩ := HQ3.out
            generalize w3.setCell ⟨w.heap.size, 1, none⟩ (.slice a n cc) = W at *
            go_region
            go_wp2
            refine bodyPost_ret (v := .tuple #[.agg #[.int .i64 c, .slice a n cc, .slice none 0 0], .int .i64 p9, .nilIface]) (by simp [results, Tryd.results10, go_sem, g0, g1, g2]) rfl ⟨?_, .inl ⟨by rw [HA.out]; exact HF0.out, ?_⟩⟩
            · exact bel_set3 HBW.out (Nat.le_refl _) 1 _ _ _
            · rw [HA.out]
              exact ⟨a, n, cc, _, _, _, rfl, own_set3 HAT.out HB8.out 1 _ _ _, bytes_nil _⟩
        · have hbare : bare = false := by
            cases bare
            · rfl
            · exact absurd (.inl rfl) hN
          have t0 : ¬ ((c : Int) < 200) := by have := fun h => hN (.inr (.inl h)); omega
          have t1 : ((c : Int) == 204) = false := bne_of (by have := fun h => hN (.inr (.inr (.inl h))); omega)
          have t2 : ((c : Int) == 304) = false := bne_of (by have := fun h => hN (.inr (.inr (.inr h))); omega)
          have HN := Lib.hid (show ¬ ((p9, 0) : Nat × Nat).2 ≠ 0 ∧ True by simp)
          have hNN : ¬ (((⟨dl, dn, dk, (p9, 0)⟩ : ReadS.Hd).σ.2 ≠ 0) ∨ bare = true ∨ c < 200 ∨ c = 204 ∨ c = 304) := by
            rintro (h | h)
            · simp at h
            · exact hN h
          have HNN := Lib.hid hNN
          clear hNN hN
          by_cases hdk : dk = true
          · obtain ⟨⟨db, du, de⟩, hde⟩ : ∃ U, dec (b.drop p9) ((b.drop p9).length + 1) 0 [] = U := ⟨_, rfl⟩
            have hA : ReadS.tellC b bare closed = (⟨c, dl, db⟩, (p9 + du, de)) := by
              rw [HTELL.out, show ReadS.bodyC b bare closed c ⟨dl, dn, dk, (p9, 0)⟩ = (db, (p9 + du, de)) from by unfold ReadS.bodyC; rw [if_neg HNN.out, if_pos hdk]; simp only [hde]]
            have hcd := fun W (hW : BytesAt W (.slice (cutA a0 p9 cap) (b.length - p9) (cap - p9)) (b.drop p9)) => ChunkD.decode_any (cutA a0 p9 cap) (cap - p9) (b.drop p9) W (by rw [List.length_drop]; exact hW) (fun z hz => HRK.out.bd z (List.mem_of_mem_drop hz))
            simp only [hde] at hcd
            simp only [List.length_drop] at hcd
            have hp9 : p9 ≤ b.length := HDOK.out rfl
            have HP9 := Lib.hid hp9
            have hdu : de = 0 → p9 + du ≤ b.length := by
              intro h
              have h1 := dec_le (b := b.drop p9) ((b.drop p9).length + 1) 0 [] (Nat.zero_le _) (by rw [hde]; exact h)
              rw [hde, List.length_drop] at h1
              simp only at h1
              omega
            have HDU := Lib.hid hdu
            have hsl := fun W => slice_fromT a0 b.length cap p9 hp9 W
            have HA := Lib.hid hA
            obtain ⟨F, hF⟩ : ∃ F, ReadS.faultS b (p9 + du, de) = F := ⟨_, rfl⟩
            have HFF := Lib.hid hF
            have HC11 := Lib.hid (fun W (hW : RS errN w W (w.heap.size + 1) (.slice a0 b.length cap) b (p9 + du, de)) => fault_any hW)
            rw [hF] at HC11
            obtain ⟨n2, hn2⟩ : ∃ n2, db.length = n2 := ⟨_, rfl⟩
            rw [hn2] at hcd
            have HLN := Lib.hid HRK.out.len
            clear hA hde hp9 hdu hn2
            subst hbare hdk
            by_cases hd0 : de = 0
            · subst hd0
              have hF0 : F = 0 := by rw [← hF]; exact if_neg (by simp)
              subst hF0
              rw [errN0] at HC11
              have HF0 : Hid (ReadS.faultS b (p9 + du, 0) = 0) := hF
              have HDU0 : Hid (p9 + du ≤ b.length) := HDU.out rfl
              have HCD := Lib.hid (fun W hW => (hcd W hW).mono (R' := fun e w' => Below W.heap.size W w' ∧ ∃ a1 c1, e = .returned (.tuple #[.slice a1 n2 c1, .int .i64 du, .nilIface]) ∧ BytesL.Own w' W.heap.size (.slice a1 n2 c1) db) (by
                rintro e w' ⟨h1, h2⟩
                rcases h2 with ⟨_, h3⟩ | ⟨h3, _⟩
                · exact ⟨h1, h3⟩
                · exact absurd rfl h3))
              clear hF hcd
              go_wp2_with (first
                | (go_at_call 22; (with_reducible refine (HC2.out _ HRK.out).mono ?_); rintro e w2 ⟨rfl, hR, hM⟩; have HR2 := Lib.hid hR; have HQ2 := Lib.hid (HPK.out.mod hM HNE.out); clear hR hM))
              (with_reducible refine (HC3.out _ HR2.out).mono ?_)
              rintro e w3 ⟨⟨a, n, cc, rfl, hAt, hdn⟩, hR, hM⟩
              have HB8 : Hid (w.heap.size < w2.heap.size) := by show w.heap.size < w2.heap.size; have := HR2.out.rd.lt; omega
              have HX8 : Hid (w.heap.size + 1 < w2.heap.size) := HR2.out.rd.lt
              have HAT := Lib.hid (own_setQ (i := 1) hAt HB8.out (.slice a n cc))
              have HR3 := Lib.hid (hR.setQ (Nat.le_refl _) HNE.out 1 (.slice a n cc))
              have HQ3 := Lib.hid ((HQ2.out.mod hM HNE.out).set1 (.slice a n cc))
              have HS3 := Lib.hid hM.size
              obtain ⟨g0, g1, g2, z0, z1, z2⟩ := HQ2.out.mod hM HNE.out
              obtain ⟨x0, x1, x2, f0, f1, f2⟩ := hR.cells
              have HR3W : Hid (w.heap.size + 1 < w3.heap.size) := hR.rd.lt
              clear hR hM hAt hdn
              have HBB : Hid (BytesAt (w3.setCell ⟨w.heap.size, 1, none⟩ (.slice a n cc)) (.slice (cutA a0 p9 cap) (b.length - p9) (cap - p9)) (b.drop p9)) := by
                have h1 := bytes_cutA HR3.out.bytes p9 (b.length - p9) (by have := HP9.out; omega)
                rw [List.take_of_length_le (by rw [List.length_drop]; exact Nat.le_refl _)] at h1
                exact h1
              have hsz9 : w3.heap.size = (w3.setCell ⟨w.heap.size, 1, none⟩ (.slice a n cc)).heap.size := by simp [World.setCell]
              have HB9 : Hid (w.heap.size < (w3.setCell ⟨w.heap.size, 1, none⟩ (.slice a n cc)).heap.size) := by show w.heap.size < _; rw [← hsz9]; have := HB8.out; have := HS3.out; omega
              have HL9 : Hid (∀ k, k < w3.heap.size → k < (w3.setCell ⟨w.heap.size, 1, none⟩ (.slice a n cc)).heap.size) := by intro k hk; rw [← hsz9]; exact hk
              clear hsz9
              go_simp
              go_wp2_with (first
                | (go_at_call 31; (with_reducible refine (HCD.out _ HBB.out).mono ?_)))
              rintro e w4 ⟨hB, a2, c2, rfl, hat⟩
              have HR4 := Lib.hid ((HR3.out.below hB).setQ (Nat.le_refl _) HNE.out 2 (.slice a2 n2 c2))
              have HM4 := Lib.hid (Mod.ofBelow (S := fun k => k = w.heap.size + 1) hB (fun k h1 h2 => absurd h1 (by have := HX8.out; omega)))
              have hcast2 : ((p9 + du : Nat) : Int) = (p9 : Int) + (du : Int) := by omega
              have HRX := Lib.hid (HR4.out.step (τ := (p9 + du, 0)) ((modX _ (w.heap.size + 1) 2 (errN 0)).setCell (p := ⟨w.heap.size + 1, 1, none⟩) (fun _ => rfl) (.int .i64 ((p9 + du : Nat) : Int))) (HR4.out.rd.both (e := 0) (p := p9 + du) (by have := HDU0.out; have := HLN.out; omega)).2 (fun _ => HDU0.out))
              have HQX := Lib.hid (((HQ3.out.mod HM4.out HNE.out).set2 (.slice a2 n2 c2)).mod ((modX _ (w.heap.size + 1) 2 (errN 0)).setCell (p := ⟨w.heap.size + 1, 1, none⟩) (fun _ => rfl) (.int .i64 ((p9 + du : Nat) : Int))) HNE.out)
              have HBO := Lib.hid (((BytesL.Own.setLow hat ⟨w.heap.size, 2, none⟩ HB9.out (.slice a2 n2 c2)).setLow ⟨w.heap.size + 1, 2, none⟩ (HL9.out _ HR3W.out) (errN 0)).setLow ⟨w.heap.size + 1, 1, none⟩ (HL9.out _ HR3W.out) (.int .i64 ((p9 + du : Nat) : Int)))
              have HAT2 := Lib.hid (((own_setQ (i := 2) (HAT.out.of_block (w' := w4) (fun k hk => HM4.out.block k (HAT.out.lt k hk).2 (fun e => by have h1 := (HAT.out.lt k hk).1; have h2 := HX8.out; omega))) HB8.out (.slice a2 n2 c2)).setCell ⟨w.heap.size + 1, 2, none⟩ (errN 0) (fun e => by have h1 := (HAT.out.lt _ e).1; have h2 := HX8.out; simp only at h1; omega)).setCell ⟨w.heap.size + 1, 1, none⟩ (.int .i64 ((p9 + du : Nat) : Int)) (fun e => by have h1 := (HAT.out.lt _ e).1; have h2 := HX8.out; simp only at h1; omega))
              rw [hcast2, errN0] at HRX HQX HBO HAT2
              clear g0 g1 g2 z0 z1 z2 x0 x1 x2 f0 f1 f2
              obtain ⟨j0, j1, j2, u0, u1, u2⟩ := HQ3.out.mod HM4.out HNE.out
              obtain ⟨x0, x1, x2, f0, f1, f2⟩ := (HR3.out.below hB).cells
              clear hB hat hcast2
              have hw64 : wrap64 ((p9 : Int) + (du : Int)) = (p9 : Int) + (du : Int) := IntWalk.wrap64_in _ (by have := HDU0.out; have := HLN.out; omega)
              go_simp
              go_wp2_with (first
                | (rw [hw64]; go_at_call 27; (with_reducible refine (HC11.out _ HRX.out).mono ?_); rintro e w11 ⟨rfl, rfl⟩)
                | (go_at_call 27; (with_reducible refine (HC11.out _ HRX.out).mono ?_); rintro e w11 ⟨rfl, rfl⟩))
              clear j0 j1 j2 u0 u1 u2 x0 x1 x2 f0 f1 f2
              have HBW := Lib.hid HRX.out.bel
              have x1 := HRX.out.cells.2.1
              obtain ⟨g0, g1, g2, z0, z1, z2⟩ := HQX.out
              generalize ((w4.setCell ⟨w.heap.size, 2, none⟩ (.slice a2 n2 c2)).setCell ⟨w.heap.size + 1, 2, none⟩ .nilIface).setCell ⟨w.heap.size + 1, 1, none⟩ (.int .i64 ((p9 : Int) + (du : Int))) = W at *
              go_region
              go_wp2
              refine bodyPost_ret (v := .tuple #[.agg #[.int .i64 c, .slice a n cc, .slice a2 n2 c2], .int .i64 ((p9 + du : Nat) : Int), .nilIface]) (by simp [results, Tryd.results10, go_sem, g0, g1, g2]) rfl ⟨?_, .inl ⟨by rw [HA.out]; exact HF0.out, ?_⟩⟩
              · exact bel_set3 HBW.out (Nat.le_refl _) 1 _ _ _
              · rw [HA.out]
                exact ⟨a, n, cc, _, _, _, rfl, own_set3 HAT2.out HB8.out 1 _ _ _, byte_set3 HBO.out HB9.out 1 _ _ _⟩
            · have hF0 : F ≠ 0 := by rw [← hF]; unfold ReadS.faultS; simp only; split <;> omega
              rw [errNk hF0] at HC11
              have HF0 := Lib.hid hF0
              have HCD := Lib.hid (fun W hW => (hcd W hW).mono (R' := fun e w' => Below W.heap.size W w' ∧ e = .returned (.tuple #[.slice none 0 0, .int .i64 0, .iface 63 (.int .i64 de)])) (by
                rintro e w' ⟨h1, h2⟩
                rcases h2 with ⟨h3, _⟩ | ⟨_, h3⟩
                · exact absurd h3 hd0
                · exact ⟨h1, h3⟩))
              have HD0 := Lib.hid hd0
              clear hF hcd hF0 hd0
              go_wp2_with (first
                | (go_at_call 22; (with_reducible refine (HC2.out _ HRK.out).mono ?_); rintro e w2 ⟨rfl, hR, hM⟩; have HR2 := Lib.hid hR; have HQ2 := Lib.hid (HPK.out.mod hM HNE.out); clear hR hM))
              (with_reducible refine (HC3.out _ HR2.out).mono ?_)
              rintro e w3 ⟨⟨a, n, cc, rfl, hAt, hdn⟩, hR, hM⟩
              have HB8 : Hid (w.heap.size < w2.heap.size) := by show w.heap.size < w2.heap.size; have := HR2.out.rd.lt; omega
              have HX8 : Hid (w.heap.size + 1 < w2.heap.size) := HR2.out.rd.lt
              have HAT := Lib.hid (own_setQ (i := 1) hAt HB8.out (.slice a n cc))
              have HR3 := Lib.hid (hR.setQ (Nat.le_refl _) HNE.out 1 (.slice a n cc))
              have HQ3 := Lib.hid ((HQ2.out.mod hM HNE.out).set1 (.slice a n cc))
              have HS3 := Lib.hid hM.size
              obtain ⟨g0, g1, g2, z0, z1, z2⟩ := HQ2.out.mod hM HNE.out
              obtain ⟨x0, x1, x2, f0, f1, f2⟩ := hR.cells
              have HR3W : Hid (w.heap.size + 1 < w3.heap.size) := hR.rd.lt
              clear hR hM hAt hdn
              have HBB : Hid (BytesAt (w3.setCell ⟨w.heap.size, 1, none⟩ (.slice a n cc)) (.slice (cutA a0 p9 cap) (b.length - p9) (cap - p9)) (b.drop p9)) := by
                have h1 := bytes_cutA HR3.out.bytes p9 (b.length - p9) (by have := HP9.out; omega)
                rw [List.take_of_length_le (by rw [List.length_drop]; exact Nat.le_refl _)] at h1
                exact h1
              have hsz9 : w3.heap.size = (w3.setCell ⟨w.heap.size, 1, none⟩ (.slice a n cc)).heap.size := by simp [World.setCell]
              have HB9 : Hid (w.heap.size < (w3.setCell ⟨w.heap.size, 1, none⟩ (.slice a n cc)).heap.size) := by show w.heap.size < _; rw [← hsz9]; have := HB8.out; have := HS3.out; omega
              have HL9 : Hid (∀ k, k < w3.heap.size → k < (w3.setCell ⟨w.heap.size, 1, none⟩ (.slice a n cc)).heap.size) := by intro k hk; rw [← hsz9]; exact hk
              clear hsz9
              go_simp
              go_wp2_with (first
                | (go_at_call 31; (with_reducible refine (HCD.out _ HBB.out).mono ?_)))
              rintro e w4 ⟨hB, rfl⟩
              have HR4 := Lib.hid ((HR3.out.below hB).setQ (Nat.le_refl _) HNE.out 2 (.slice none 0 0))
              have HM4 := Lib.hid (Mod.ofBelow (S := fun k => k = w.heap.size + 1) hB (fun k h1 h2 => absurd h1 (by have := HX8.out; omega)))
              have HRX := Lib.hid ((HR4.out.step (τ := (p9, de)) ((modX _ (w.heap.size + 1) 2 (errN de)).setCell (p := ⟨w.heap.size + 1, 1, none⟩) (fun _ => rfl) (.int .i64 (p9 : Int))) (HR4.out.rd.both (e := de) (p := p9) (by have := HP9.out; have := HLN.out; omega)).2 (fun h => absurd h HD0.out)).bad (τ := (p9 + du, de)) HD0.out rfl)
              rw [errNk HD0.out] at HRX
              clear g0 g1 g2 z0 z1 z2 x0 x1 x2 f0 f1 f2
              obtain ⟨j0, j1, j2, u0, u1, u2⟩ := HQ3.out.mod HM4.out HNE.out
              obtain ⟨x0, x1, x2, f0, f1, f2⟩ := (HR3.out.below hB).cells
              clear hB
              have hw64 : wrap64 (p9 : Int) = (p9 : Int) := IntWalk.wrap64_in _ (by have := HP9.out; have := HLN.out; omega)
              have hw65 : wrap64 ((p9 : Int) + 0) = (p9 : Int) := by rw [Int.add_zero]; exact hw64
              go_simp
              go_wp2_with (first
                | (rw [hw64]; go_at_call 27; (with_reducible refine (HC11.out _ HRX.out).mono ?_); rintro e w11 ⟨rfl, rfl⟩)
                | (rw [hw65]; go_at_call 27; (with_reducible refine (HC11.out _ HRX.out).mono ?_); rintro e w11 ⟨rfl, rfl⟩)
                | (go_at_call 27; (with_reducible refine (HC11.out _ HRX.out).mono ?_); rintro e w11 ⟨rfl, rfl⟩))
              refine bodyPost_ret (v := .tuple #[.agg #[.int .i64 0, .slice none 0 0, .slice none 0 0], .int .i64 0, .iface 63 (.int .i64 F)]) (by simp [results, Tryd.results10, go_sem, j0, j1, j2]) rfl ⟨?_, .inr ⟨by rw [HA.out]; simp only; rw [HFF.out]; exact HF0.out, by rw [HA.out]; simp only; rw [HFF.out, errNk HF0.out]⟩⟩
              exact (((HRX.out.bel.setCell (Nat.le_refl _) _).setCell (Nat.le_refl _) _).setCell (Nat.le_refl _) _)
          · have hdkf : dk = false := by simpa using hdk
            by_cases hdn : 0 ≤ dn
            · obtain ⟨q, rfl⟩ : ∃ q : Nat, dn = (q : Int) := ⟨dn.toNat, by omega⟩
              have hq0 : (0 : Int) ≤ (q : Int) := by omega
              obtain ⟨⟨ub, τ⟩, hu⟩ : ∃ U, ReadS.bodyS b q (p9, 0) = U := ⟨_, rfl⟩
              have hA : ReadS.tellC b bare closed = (⟨c, dl, ub⟩, τ) := by
                rw [HTELL.out, show ReadS.bodyC b bare closed c ⟨dl, (q : Int), dk, (p9, 0)⟩ = ReadS.bodyS b q (p9, 0) from by unfold ReadS.bodyC; rw [if_neg HNN.out, if_neg (by simpa using hdk), if_pos (by simp)]; simp, hu]
              have HA := Lib.hid hA
              obtain ⟨n2, hn2⟩ : ∃ n2, ub.length = n2 := ⟨_, rfl⟩
              have HC10 := Lib.hid (fun W (hW : RS errN w W (w.heap.size + 1) (.slice a0 b.length cap) b (p9, 0)) (hq : q ≤ 100000) => body_any hW q hq)
              simp only [hu, hn2] at HC10
              obtain ⟨F, hF⟩ : ∃ F, ReadS.faultS b τ = F := ⟨_, rfl⟩
              have HFF := Lib.hid hF
              have HC11 := Lib.hid (fun W (hW : RS errN w W (w.heap.size + 1) (.slice a0 b.length cap) b τ) => fault_any hW)
              rw [hF] at HC11
              have HDKF := Lib.hid hdk
              clear hdk hdn
              subst hbare hdkf
              by_cases hF0 : F = 0
              · subst hF0
                rw [errN0] at HC11
                obtain ⟨p10, e10⟩ := τ
                have he : e10 = 0 := by
                  unfold ReadS.faultS at hF
                  split at hF
                  · cases hF
                  · exact hF
                subst he
                have HF0 : Hid (ReadS.faultS b (p10, 0) = 0) := hF
                clear hA hu hn2 hF
                go_wp2_with (first
                  | (go_at_call 22; (with_reducible refine (HC2.out _ HRK.out).mono ?_); rintro e w2 ⟨rfl, hR, hM⟩; have HR2 := Lib.hid hR; have HQ2 := Lib.hid (HPK.out.mod hM HNE.out); clear hR hM))
                (with_reducible refine (HC3.out _ HR2.out).mono ?_)
                rintro e w3 ⟨⟨a, n, cc, rfl, hAt, hdn⟩, hR, hM⟩
                have HB8 : Hid (w.heap.size < w2.heap.size) := by show w.heap.size < w2.heap.size; have := HR2.out.rd.lt; omega
                have HX8 : Hid (w.heap.size + 1 < w2.heap.size) := HR2.out.rd.lt
                have HAT := Lib.hid (own_setQ (i := 1) hAt HB8.out (.slice a n cc))
                have HR3 := Lib.hid (hR.setQ (Nat.le_refl _) HNE.out 1 (.slice a n cc))
                have HQ3 := Lib.hid ((HQ2.out.mod hM HNE.out).set1 (.slice a n cc))
                have HS3 := Lib.hid hM.size
                have HDN := Lib.hid hdn
                obtain ⟨g0, g1, g2, z0, z1, z2⟩ := HQ2.out.mod hM HNE.out
                obtain ⟨x0, x1, x2, f0, f1, f2⟩ := hR.cells
                clear hR hM hAt hdn
                go_simp
                have HQB : Hid (q ≤ 100000) := by show q ≤ 100000; have := HDN.out; omega
                go_wp2_with fail
                (with_reducible refine (HC10.out _ HR3.out HQB.out).mono ?_)
                rintro e w4 ⟨⟨a2, c2, rfl, hat⟩, hR, hM⟩
                have HR4 := Lib.hid (hR.setQ (Nat.le_refl _) HNE.out 2 (.slice a2 n2 c2))
                have HQ4 := Lib.hid ((HQ3.out.mod hM HNE.out).set2 (.slice a2 n2 c2))
                have hsz9 : w3.heap.size = (w3.setCell ⟨w.heap.size, 1, none⟩ (.slice a n cc)).heap.size := by simp [World.setCell]
                have HB9 : Hid (w.heap.size < (w3.setCell ⟨w.heap.size, 1, none⟩ (.slice a n cc)).heap.size) := by show w.heap.size < _; rw [← hsz9]; have := HB8.out; have := HS3.out; omega
                have HBO := Lib.hid (BytesL.Own.setLow hat ⟨w.heap.size, 2, none⟩ HB9.out (.slice a2 n2 c2))
                have HAT2 := Lib.hid (own_setQ (i := 2) (HAT.out.of_block (w' := w4) (fun k hk => hM.block k (HAT.out.lt k hk).2 (fun e => by have h1 := (HAT.out.lt k hk).1; have h2 := HX8.out; omega))) HB8.out (.slice a2 n2 c2))
                obtain ⟨j0, j1, j2, u0, u1, u2⟩ := HQ3.out.mod hM HNE.out
                clear hR hM hat hsz9 g0 g1 g2 z0 z1 z2 x0 x1 x2 f0 f1 f2
                go_simp
                go_wp2_with (first
                  | (go_at_call 27; (with_reducible refine (HC11.out _ HR4.out).mono ?_); rintro e w11 ⟨rfl, rfl⟩))
                clear j0 j1 j2 u0 u1 u2
                have HBW := Lib.hid HR4.out.bel
                have x1 := HR4.out.cells.2.1
                obtain ⟨g0, g1, g2, z0, z1, z2⟩ := HQ4.out
                generalize w4.setCell ⟨w.heap.size, 2, none⟩ (.slice a2 n2 c2) = W at *
                go_region
                go_wp2
                refine bodyPost_ret (v := .tuple #[.agg #[.int .i64 c, .slice a n cc, .slice a2 n2 c2], .int .i64 p10, .nilIface]) (by simp [results, Tryd.results10, go_sem, g0, g1, g2]) rfl ⟨?_, .inl ⟨by rw [HA.out]; exact HF0.out, ?_⟩⟩
                · exact bel_set3 HBW.out (Nat.le_refl _) 1 _ _ _
                · rw [HA.out]
                  exact ⟨a, n, cc, _, _, _, rfl, own_set3 HAT2.out HB8.out 1 _ _ _, byte_set3 HBO.out HB9.out 1 _ _ _⟩
              · rw [errNk hF0] at HC11
                have HF0 := Lib.hid hF0
                clear hA hu hn2 hF hF0
                go_wp2_with (first
                  | (go_at_call 22; (with_reducible refine (HC2.out _ HRK.out).mono ?_); rintro e w2 ⟨rfl, hR, hM⟩; have HR2 := Lib.hid hR; have HQ2 := Lib.hid (HPK.out.mod hM HNE.out); clear hR hM))
                (with_reducible refine (HC3.out _ HR2.out).mono ?_)
                rintro e w3 ⟨⟨a, n, cc, rfl, hAt, hdn⟩, hR, hM⟩
                have HB8 : Hid (w.heap.size < w2.heap.size) := by show w.heap.size < w2.heap.size; have := HR2.out.rd.lt; omega
                have HX8 : Hid (w.heap.size + 1 < w2.heap.size) := HR2.out.rd.lt
                have HAT := Lib.hid (own_setQ (i := 1) hAt HB8.out (.slice a n cc))
                have HR3 := Lib.hid (hR.setQ (Nat.le_refl _) HNE.out 1 (.slice a n cc))
                have HQ3 := Lib.hid ((HQ2.out.mod hM HNE.out).set1 (.slice a n cc))
                have HS3 := Lib.hid hM.size
                have HDN := Lib.hid hdn
                obtain ⟨g0, g1, g2, z0, z1, z2⟩ := HQ2.out.mod hM HNE.out
                obtain ⟨x0, x1, x2, f0, f1, f2⟩ := hR.cells
                clear hR hM hAt hdn
                go_simp
                have HQB : Hid (q ≤ 100000) := by show q ≤ 100000; have := HDN.out; omega
                go_wp2_with fail
                (with_reducible refine (HC10.out _ HR3.out HQB.out).mono ?_)
                rintro e w4 ⟨⟨a2, c2, rfl, hat⟩, hR, hM⟩
                have HR4 := Lib.hid (hR.setQ (Nat.le_refl _) HNE.out 2 (.slice a2 n2 c2))
                have HQ4 := Lib.hid ((HQ3.out.mod hM HNE.out).set2 (.slice a2 n2 c2))
                have hsz9 : w3.heap.size = (w3.setCell ⟨w.heap.size, 1, none⟩ (.slice a n cc)).heap.size := by simp [World.setCell]
                have HB9 : Hid (w.heap.size < (w3.setCell ⟨w.heap.size, 1, none⟩ (.slice a n cc)).heap.size) := by show w.heap.size < _; rw [← hsz9]; have := HB8.out; have := HS3.out; omega
                have HBO := Lib.hid (BytesL.Own.setLow hat ⟨w.heap.size, 2, none⟩ HB9.out (.slice a2 n2 c2))
                have HAT2 := Lib.hid (own_setQ (i := 2) (HAT.out.of_block (w' := w4) (fun k hk => hM.block k (HAT.out.lt k hk).2 (fun e => by have h1 := (HAT.out.lt k hk).1; have h2 := HX8.out; omega))) HB8.out (.slice a2 n2 c2))
                obtain ⟨j0, j1, j2, u0, u1, u2⟩ := HQ3.out.mod hM HNE.out
                clear hR hM hat hsz9 g0 g1 g2 z0 z1 z2 x0 x1 x2 f0 f1 f2
                go_simp
                go_wp2_with (first
                  | (go_at_call 27; (with_reducible refine (HC11.out _ HR4.out).mono ?_); rintro e w11 ⟨rfl, rfl⟩))
                refine bodyPost_ret (v := .tuple #[.agg #[.int .i64 0, .slice none 0 0, .slice none 0 0], .int .i64 0, .iface 63 (.int .i64 F)]) (by simp [results, Tryd.results10, go_sem, j0, j1, j2]) rfl ⟨?_, .inr ⟨by rw [HA.out]; simp only; rw [HFF.out]; exact HF0.out, by rw [HA.out]; simp only; rw [HFF.out, errNk HF0.out]⟩⟩
                exact (((HR4.out.bel.setCell (Nat.le_refl _) _).setCell (Nat.le_refl _) _).setCell (Nat.le_refl _) _)
            · have hp9 : p9 ≤ b.length := HDOK.out rfl
              have f3 : dn < 0 := by omega
              by_cases hbig : 8000 < b.length - p9
              · have f1 : (8000 : Int) < (b.length : Int) - (p9 : Int) := by omega
                obtain ⟨F, hF⟩ : ∃ F, ReadS.faultS b (p9, 4) = F := ⟨_, rfl⟩
                have hF0 : F ≠ 0 := by rw [← hF]; unfold ReadS.faultS; simp only; split <;> decide
                have hA : ReadS.faultS b (ReadS.tellC b bare closed).2 = F := by
                  rw [HTELL.out, show ReadS.bodyC b bare closed c ⟨dl, dn, dk, (p9, 0)⟩ = ([], (p9, 4)) from by unfold ReadS.bodyC; rw [if_neg HNN.out, if_neg (by simpa using hdk), if_neg (by simpa using hdn), if_pos (by simpa using hbig)], ← hF]
                have HA := Lib.hid hA
                have HF0 := Lib.hid hF0
                have HC11 := Lib.hid (fun W (hW : RS errN w W (w.heap.size + 1) (.slice a0 b.length cap) b (p9, 4)) => fault_any hW)
                rw [hF, errNk hF0] at HC11
                have HDKF := Lib.hid hdk
                clear hA hF hF0 hdk
                clear hbig hdn
                subst hbare hdkf
                go_wp2_with (first
                  | (go_at_call 22; (with_reducible refine (HC2.out _ HRK.out).mono ?_); rintro e w2 ⟨rfl, hR, hM⟩; have HR2 := Lib.hid hR; have HQ2 := Lib.hid (HPK.out.mod hM HNE.out); clear hR hM))
                (with_reducible refine (HC3.out _ HR2.out).mono ?_)
                rintro e w3 ⟨⟨a, n, cc, rfl, hAt, hdn⟩, hR, hM⟩
                have HB8 : Hid (w.heap.size < w2.heap.size) := by show w.heap.size < w2.heap.size; have := HR2.out.rd.lt; omega
                have HX8 : Hid (w.heap.size + 1 < w2.heap.size) := HR2.out.rd.lt
                have HAT := Lib.hid (own_setQ (i := 1) hAt HB8.out (.slice a n cc))
                have HR3 := Lib.hid (hR.setQ (Nat.le_refl _) HNE.out 1 (.slice a n cc))
                have HQ3 := Lib.hid ((HQ2.out.mod hM HNE.out).set1 (.slice a n cc))
                have HS3 := Lib.hid hM.size
                have HDN := Lib.hid hdn
                obtain ⟨g0, g1, g2, z0, z1, z2⟩ := HQ2.out.mod hM HNE.out
                obtain ⟨x0, x1, x2, f0, f1, f2⟩ := hR.cells
                clear hR hM hAt hdn
                go_simp
                have HRE := Lib.hid (HR3.out.step (modX _ (w.heap.size + 1) 2 (errN 4)) (HR3.out.rd.fault (e := 4) (by decide) p9) (by intro h; cases h))
                rw [errN4] at HRE
                go_wp2_with (first
                  | (go_at_call 27; (with_reducible refine (HC11.out _ HRE.out).mono ?_); rintro e w11 ⟨rfl, rfl⟩))
                refine bodyPost_ret (v := .tuple #[.agg #[.int .i64 0, .slice none 0 0, .slice none 0 0], .int .i64 0, .iface 63 (.int .i64 F)]) (by simp [results, Tryd.results10, go_sem, g0, g1, g2]) rfl ⟨?_, .inr ⟨by rw [HA.out]; exact HF0.out, by rw [HA.out, errNk HF0.out]⟩⟩
                exact (((HRE.out.bel.setCell (Nat.le_refl _) _).setCell (Nat.le_refl _) _).setCell (Nat.le_refl _) _)
              · have f1 : ¬ ((8000 : Int) < (b.length : Int) - (p9 : Int)) := by omega
                by_cases hcl : closed = true
                · obtain ⟨⟨ub, τ⟩, hu⟩ : ∃ U, ReadS.bodyS b (b.length - p9) (p9, 0) = U := ⟨_, rfl⟩
                  have hA : ReadS.tellC b bare closed = (⟨c, dl, ub⟩, τ) := by
                    rw [HTELL.out, show ReadS.bodyC b bare closed c ⟨dl, dn, dk, (p9, 0)⟩ = ReadS.bodyS b (b.length - p9) (p9, 0) from by unfold ReadS.bodyC; rw [if_neg HNN.out, if_neg (by simpa using hdk), if_neg (by simpa using hdn), if_neg (by simpa using hbig), if_neg (by rw [hcl]; simp)], hu]
                  have HA := Lib.hid hA
                  obtain ⟨n2, hn2⟩ : ∃ n2, ub.length = n2 := ⟨_, rfl⟩
                  have HC10 := Lib.hid (fun W (hW : RS errN w W (w.heap.size + 1) (.slice a0 b.length cap) b (p9, 0)) (hq : b.length - p9 ≤ 100000) => body_any hW (b.length - p9) hq)
                  have hca : ((b.length - p9 : Nat) : Int) = (b.length : Int) - (p9 : Int) := by omega
                  simp only [hu, hn2, hca] at HC10
                  have HQB : Hid (b.length - p9 ≤ 100000) := by show b.length - p9 ≤ 100000; omega
                  have f1 : ¬ ((8000 : Int) < (b.length : Int) - (p9 : Int)) := by omega
                  have f2 : ¬ (0 ≤ dn) := hdn
                  have f3 : dn < 0 := by omega
                  obtain ⟨F, hF⟩ : ∃ F, ReadS.faultS b τ = F := ⟨_, rfl⟩
                  have HFF := Lib.hid hF
                  have HC11 := Lib.hid (fun W (hW : RS errN w W (w.heap.size + 1) (.slice a0 b.length cap) b τ) => fault_any hW)
                  rw [hF] at HC11
                  have HDKF := Lib.hid hdk
                  clear hdk hdn hbig hca
                  subst hbare hdkf hcl
                  by_cases hF0 : F = 0
                  · subst hF0
                    rw [errN0] at HC11
                    obtain ⟨p10, e10⟩ := τ
                    have he : e10 = 0 := by
                      unfold ReadS.faultS at hF
                      split at hF
                      · cases hF
                      · exact hF
                    subst he
                    have HF0 : Hid (ReadS.faultS b (p10, 0) = 0) := hF
                    clear hA hu hn2 hF
                    go_wp2_with (first
                      | (go_at_call 22; (with_reducible refine (HC2.out _ HRK.out).mono ?_); rintro e w2 ⟨rfl, hR, hM⟩; have HR2 := Lib.hid hR; have HQ2 := Lib.hid (HPK.out.mod hM HNE.out); clear hR hM))
                    (with_reducible refine (HC3.out _ HR2.out).mono ?_)
                    rintro e w3 ⟨⟨a, n, cc, rfl, hAt, hdn⟩, hR, hM⟩
                    have HB8 : Hid (w.heap.size < w2.heap.size) := by show w.heap.size < w2.heap.size; have := HR2.out.rd.lt; omega
                    have HX8 : Hid (w.heap.size + 1 < w2.heap.size) := HR2.out.rd.lt
                    have HAT := Lib.hid (own_setQ (i := 1) hAt HB8.out (.slice a n cc))
                    have HR3 := Lib.hid (hR.setQ (Nat.le_refl _) HNE.out 1 (.slice a n cc))
                    have HQ3 := Lib.hid ((HQ2.out.mod hM HNE.out).set1 (.slice a n cc))
                    have HS3 := Lib.hid hM.size
                    have HDN := Lib.hid hdn
                    obtain ⟨g0, g1, g2, z0, z1, z2⟩ := HQ2.out.mod hM HNE.out
                    obtain ⟨x0, x1, x2, f0, f1, f2⟩ := hR.cells
                    clear hR hM hAt hdn
                    go_simp
                    go_wp2_with fail
                    (with_reducible refine (HC10.out _ HR3.out HQB.out).mono ?_)
                    rintro e w4 ⟨⟨a2, c2, rfl, hat⟩, hR, hM⟩
                    have HR4 := Lib.hid (hR.setQ (Nat.le_refl _) HNE.out 2 (.slice a2 n2 c2))
                    have HQ4 := Lib.hid ((HQ3.out.mod hM HNE.out).set2 (.slice a2 n2 c2))
                    have hsz9 : w3.heap.size = (w3.setCell ⟨w.heap.size, 1, none⟩ (.slice a n cc)).heap.size := by simp [World.setCell]
                    have HB9 : Hid (w.heap.size < (w3.setCell ⟨w.heap.size, 1, none⟩ (.slice a n cc)).heap.size) := by show w.heap.size < _; rw [← hsz9]; have := HB8.out; have := HS3.out; omega
                    have HBO := Lib.hid (BytesL.Own.setLow hat ⟨w.heap.size, 2, none⟩ HB9.out (.slice a2 n2 c2))
                    have HAT2 := Lib.hid (own_setQ (i := 2) (HAT.out.of_block (w' := w4) (fun k hk => hM.block k (HAT.out.lt k hk).2 (fun e => by have h1 := (HAT.out.lt k hk).1; have h2 := HX8.out; omega))) HB8.out (.slice a2 n2 c2))
                    obtain ⟨j0, j1, j2, u0, u1, u2⟩ := HQ3.out.mod hM HNE.out
                    clear hR hM hat hsz9 g0 g1 g2 z0 z1 z2 x0 x1 x2 f0 f1 f2
                    go_simp
                    go_wp2_with (first
                      | (go_at_call 27; (with_reducible refine (HC11.out _ HR4.out).mono ?_); rintro e w11 ⟨rfl, rfl⟩))
                    clear j0 j1 j2 u0 u1 u2
                    have HBW := Lib.hid HR4.out.bel
                    have x1 := HR4.out.cells.2.1
                    obtain ⟨g0, g1, g2, z0, z1, z2⟩ := HQ4.out
                    generalize w4.setCell ⟨w.heap.size, 2, none⟩ (.slice a2 n2 c2) = W at *
                    go_region
                    go_wp2
                    refine bodyPost_ret (v := .tuple #[.agg #[.int .i64 c, .slice a n cc, .slice a2 n2 c2], .int .i64 p10, .nilIface]) (by simp [results, Tryd.results10, go_sem, g0, g1, g2]) rfl ⟨?_, .inl ⟨by rw [HA.out]; exact HF0.out, ?_⟩⟩
                    · exact bel_set3 HBW.out (Nat.le_refl _) 1 _ _ _
                    · rw [HA.out]
                      exact ⟨a, n, cc, _, _, _, rfl, own_set3 HAT2.out HB8.out 1 _ _ _, byte_set3 HBO.out HB9.out 1 _ _ _⟩
                  · rw [errNk hF0] at HC11
                    have HF0 := Lib.hid hF0
                    clear hA hu hn2 hF hF0
                    go_wp2_with (first
                      | (go_at_call 22; (with_reducible refine (HC2.out _ HRK.out).mono ?_); rintro e w2 ⟨rfl, hR, hM⟩; have HR2 := Lib.hid hR; have HQ2 := Lib.hid (HPK.out.mod hM HNE.out); clear hR hM))
                    (with_reducible refine (HC3.out _ HR2.out).mono ?_)
                    rintro e w3 ⟨⟨a, n, cc, rfl, hAt, hdn⟩, hR, hM⟩
                    have HB8 : Hid (w.heap.size < w2.heap.size) := by show w.heap.size < w2.heap.size; have := HR2.out.rd.lt; omega
                    have HX8 : Hid (w.heap.size + 1 < w2.heap.size) := HR2.out.rd.lt
                    have HAT := Lib.hid (own_setQ (i := 1) hAt HB8.out (.slice a n cc))
                    have HR3 := Lib.hid (hR.setQ (Nat.le_refl _) HNE.out 1 (.slice a n cc))
                    have HQ3 := Lib.hid ((HQ2.out.mod hM HNE.out).set1 (.slice a n cc))
                    have HS3 := Lib.hid hM.size
                    have HDN := Lib.hid hdn
                    obtain ⟨g0, g1, g2, z0, z1, z2⟩ := HQ2.out.mod hM HNE.out
                    obtain ⟨x0, x1, x2, f0, f1, f2⟩ := hR.cells
                    clear hR hM hAt hdn
                    go_simp
                    go_wp2_with fail
                    (with_reducible refine (HC10.out _ HR3.out HQB.out).mono ?_)
                    rintro e w4 ⟨⟨a2, c2, rfl, hat⟩, hR, hM⟩
                    have HR4 := Lib.hid (hR.setQ (Nat.le_refl _) HNE.out 2 (.slice a2 n2 c2))
                    have HQ4 := Lib.hid ((HQ3.out.mod hM HNE.out).set2 (.slice a2 n2 c2))
                    have hsz9 : w3.heap.size = (w3.setCell ⟨w.heap.size, 1, none⟩ (.slice a n cc)).heap.size := by simp [World.setCell]
                    have HB9 : Hid (w.heap.size < (w3.setCell ⟨w.heap.size, 1, none⟩ (.slice a n cc)).heap.size) := by show w.heap.size < _; rw [← hsz9]; have := HB8.out; have := HS3.out; omega
                    have HBO := Lib.hid (BytesL.Own.setLow hat ⟨w.heap.size, 2, none⟩ HB9.out (.slice a2 n2 c2))
                    have HAT2 := Lib.hid (own_setQ (i := 2) (HAT.out.of_block (w' := w4) (fun k hk => hM.block k (HAT.out.lt k hk).2 (fun e => by have h1 := (HAT.out.lt k hk).1; have h2 := HX8.out; omega))) HB8.out (.slice a2 n2 c2))
                    obtain ⟨j0, j1, j2, u0, u1, u2⟩ := HQ3.out.mod hM HNE.out
                    clear hR hM hat hsz9 g0 g1 g2 z0 z1 z2 x0 x1 x2 f0 f1 f2
                    go_simp
                    go_wp2_with (first
                      | (go_at_call 27; (with_reducible refine (HC11.out _ HR4.out).mono ?_); rintro e w11 ⟨rfl, rfl⟩))
                    refine bodyPost_ret (v := .tuple #[.agg #[.int .i64 0, .slice none 0 0, .slice none 0 0], .int .i64 0, .iface 63 (.int .i64 F)]) (by simp [results, Tryd.results10, go_sem, j0, j1, j2]) rfl ⟨?_, .inr ⟨by rw [HA.out]; simp only; rw [HFF.out]; exact HF0.out, by rw [HA.out]; simp only; rw [HFF.out, errNk HF0.out]⟩⟩
                    exact (((HR4.out.bel.setCell (Nat.le_refl _) _).setCell (Nat.le_refl _) _).setCell (Nat.le_refl _) _)
                · have hclf : closed = false := by simpa using hcl
                  obtain ⟨F, hF⟩ : ∃ F, ReadS.faultS b (p9, 8) = F := ⟨_, rfl⟩
                  have hF0 : F ≠ 0 := by rw [← hF]; unfold ReadS.faultS; simp only; split <;> decide
                  have hA : ReadS.faultS b (ReadS.tellC b bare closed).2 = F := by
                    rw [HTELL.out, show ReadS.bodyC b bare closed c ⟨dl, dn, dk, (p9, 0)⟩ = ([], (p9, 8)) from by unfold ReadS.bodyC; rw [if_neg HNN.out, if_neg (by simpa using hdk), if_neg (by simpa using hdn), if_neg (by simpa using hbig), if_pos hclf], ← hF]
                  have HA := Lib.hid hA
                  have HF0 := Lib.hid hF0
                  have HC11 := Lib.hid (fun W (hW : RS errN w W (w.heap.size + 1) (.slice a0 b.length cap) b (p9, 8)) => fault_any hW)
                  rw [hF, errNk hF0] at HC11
                  have HDKF := Lib.hid hdk
                  clear hA hF hF0 hdk
                  clear hbig hdn hcl
                  subst hbare hdkf hclf
                  go_wp2_with (first
                    | (go_at_call 22; (with_reducible refine (HC2.out _ HRK.out).mono ?_); rintro e w2 ⟨rfl, hR, hM⟩; have HR2 := Lib.hid hR; have HQ2 := Lib.hid (HPK.out.mod hM HNE.out); clear hR hM))
                  (with_reducible refine (HC3.out _ HR2.out).mono ?_)
                  rintro e w3 ⟨⟨a, n, cc, rfl, hAt, hdn⟩, hR, hM⟩
                  have HB8 : Hid (w.heap.size < w2.heap.size) := by show w.heap.size < w2.heap.size; have := HR2.out.rd.lt; omega
                  have HX8 : Hid (w.heap.size + 1 < w2.heap.size) := HR2.out.rd.lt
                  have HAT := Lib.hid (own_setQ (i := 1) hAt HB8.out (.slice a n cc))
                  have HR3 := Lib.hid (hR.setQ (Nat.le_refl _) HNE.out 1 (.slice a n cc))
                  have HQ3 := Lib.hid ((HQ2.out.mod hM HNE.out).set1 (.slice a n cc))
                  have HS3 := Lib.hid hM.size
                  have HDN := Lib.hid hdn
                  obtain ⟨g0, g1, g2, z0, z1, z2⟩ := HQ2.out.mod hM HNE.out
                  obtain ⟨x0, x1, x2, f0, f1, f2⟩ := hR.cells
                  clear hR hM hAt hdn
                  go_simp
                  have HRE := Lib.hid (HR3.out.step (modX _ (w.heap.size + 1) 2 (errN 8)) (HR3.out.rd.fault (e := 8) (by decide) p9) (by intro h; cases h))
                  rw [errN8] at HRE
                  go_wp2_with (first
                    | (go_at_call 27; (with_reducible refine (HC11.out _ HRE.out).mono ?_); rintro e w11 ⟨rfl, rfl⟩))
                  refine bodyPost_ret (v := .tuple #[.agg #[.int .i64 0, .slice none 0 0, .slice none 0 0], .int .i64 0, .iface 63 (.int .i64 F)]) (by simp [results, Tryd.results10, go_sem, g0, g1, g2]) rfl ⟨?_, .inr ⟨by rw [HA.out]; exact HF0.out, by rw [HA.out, errNk HF0.out]⟩⟩
                  exact (((HRE.out.bel.setCell (Nat.le_refl _) _).setCell (Nat.le_refl _) _).setCell (Nat.le_refl _) _)
      · have hY : ReadS.bodyC b bare closed c D = ([], D.σ) := if_pos (.inl hs)
        obtain ⟨F, hF⟩ : ∃ F, ReadS.faultS b D.σ = F := ⟨_, rfl⟩
        have hF0 : F ≠ 0 := by rw [← hF]; unfold ReadS.faultS; split <;> omega
        have hA : ReadS.faultS b (ReadS.tellC b bare closed).2 = F := by rw [HTELL.out]; simp only; rw [hY, hF]
        have HA := Lib.hid hA
        have HC11 := Lib.hid (fun W (hW : RS errN w W (w.heap.size + 1) (.slice a0 b.length cap) b D.σ) => fault_any hW)
        rw [hF, errNk hF0] at HC11
        have HF0 := Lib.hid hF0
        have HSE := Lib.hid hs
        obtain ⟨⟨p9, e9⟩, hσ9⟩ : ∃ τ, D.σ = τ := ⟨_, rfl⟩
        rw [hσ9] at HC11 HC3 HSE
        clear hY hF hF0 hA hs hσ9
        go_wp2_with (first
          | (go_at_call 22; (with_reducible refine (HC2.out _ HRK.out).mono ?_); rintro e w2 ⟨rfl, hR, hM⟩; have HR2 := Lib.hid hR; have HQ2 := Lib.hid (HPK.out.mod hM HNE.out); clear hR hM))
        (with_reducible refine (HC3.out _ HR2.out).mono ?_)
        rintro e w3 ⟨⟨a, n, cc, m, k, rfl, hHD⟩, hR, hM⟩
        have HR3 := Lib.hid (hR.setQ (Nat.le_refl _) HNE.out 1 (.slice a n cc))
        have HQ3 := Lib.hid ((HQ2.out.mod hM HNE.out).set1 (.slice a n cc))
        obtain ⟨g0, g1, g2, z0, z1, z2⟩ := HQ2.out.mod hM HNE.out
        have x2 := (hR.cellsE HSE.out).2.2.1
        clear hR hM hHD
        go_simp
        go_wp2_with (first
          | (go_at_call 27; (with_reducible refine (HC11.out _ HR3.out).mono ?_); rintro e w11 ⟨rfl, rfl⟩))
        refine bodyPost_ret (v := .tuple #[.agg #[.int .i64 0, .slice none 0 0, .slice none 0 0], .int .i64 0, .iface 63 (.int .i64 F)]) (by simp [results, Tryd.results10, go_sem, g0, g1, g2]) rfl ⟨?_, .inr ⟨by rw [HA.out]; exact HF0.out, by rw [HA.out, errNk HF0.out]⟩⟩
        exact (((HR3.out.bel.setCell (Nat.le_refl _) _).setCell (Nat.le_refl _) _).setCell (Nat.le_refl _) _)
end Go.Proofs.YtkohbbnnjakhjaaDoor.ReadC
