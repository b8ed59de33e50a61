/-
  head's literal over this seat's translation, of any bytes.
  Conditions: where the bytes and the table lie.
-/
import Derived.Test.YtbbhinhledkceaaHeadRd
import Derived.Test.YtbbhinhledkceaaHeadSt
import Derived.Test.YtbbhinhledkceaaTable
namespace Go.Proofs.Ytbbhinhledkceaa.HeadF
open Go.RowKit RowsK FieldRows ModL TableC HeadC CodeC WireC
set_option linter.unusedVariables false
set_option linter.unusedSimpArgs false

/-- A Coder's table for what comes, and a reader, apart. -/
structure RS (w : World) (g bi r : Nat) (max si : Int) (Oi B : Option Nat) (li : List Fld) (b : List Int) (e : Nat) : Prop where
  c1 : w.cell? ⟨g, 1, none⟩ = some (.pointer (some ⟨bi, 0, none⟩))
  tb : IsTable w bi bi max li si
  ow : OwnAt w bi Oi
  rd : IsRd w r B b e
  ap : g ≠ r ∧ bi ≠ r ∧ Oi ≠ some r
  B0 : ∀ k, B = some k → k < w.heap.size
  O0 : ∀ k, Oi = some k → k < w.heap.size
variable {w w' : World} {g bi r : Nat} {max si : Int} {Oi B : Option Nat} {li : List Fld} {b b' : List Int} {e e' : Nat}
theorem ownAt_at {q : Nat} {O : Option Nat} (h : OwnAt w q O) (hb : w'.heap[q]? = w.heap[q]?) : OwnAt w' q O := by
  obtain ⟨v, h0, h1⟩ := h
  exact ⟨v, (World.cell?_of_block (a := ⟨q, 0, none⟩) hb).trans h0, h1⟩
theorem RS.moved (h : RS w g bi r max si Oi B li b e) (hR : IsRd w' r B b' e') (hM : Mod (fun k => k = r) w w') : RS w' g bi r max si Oi B li b' e' := by
  have hg := block_lt_of_cell h.c1
  have k1 : ∀ q, q < w.heap.size → q ≠ r → w'.heap[q]? = w.heap[q]? := fun q hq hn => hM.block q hq hn
  obtain ⟨t1, t2⟩ := table_of h.tb h.ow (k1 bi h.tb.lt h.ap.2.1) (fun k hk => k1 k (h.O0 k hk) (fun e => h.ap.2.2 (by rw [hk, e]))) hM.size
  exact ⟨(World.cell?_of_block (a := ⟨g, 1, none⟩) (k1 g hg h.ap.1)).trans h.c1, t1, t2, hR, h.ap, fun k hk => Nat.lt_of_lt_of_le (h.B0 k hk) hM.size, fun k hk => Nat.lt_of_lt_of_le (h.O0 k hk) hM.size⟩
theorem RS.below (h : RS w g bi r max si Oi B li b e) (hB : Below w.heap.size w w') : RS w' g bi r max si Oi B li b e := by
  have hg := block_lt_of_cell h.c1
  have hr := h.rd.lt
  exact ⟨(hB.cell (p := ⟨g, 1, none⟩) hg).trans h.c1, h.tb.old hB, ownAt_at h.ow (hB.block bi h.tb.lt), h.rd.of_block (hB.block r hr) (fun k hk => hB.block k (h.B0 k hk)) hB.size, h.ap, fun k hk => Nat.lt_of_lt_of_le (h.B0 k hk) hB.size, fun k hk => Nat.lt_of_lt_of_le (h.O0 k hk) hB.size⟩
/-- The field that bytes say, what is left, the fault. -/
def litS (li : List Fld) (b : List Int) (p : Nat) : Fld × List Int × Nat :=
  if (getS b p).2.2 = 0 ∧ 0 < (getS b p).1 then
    if (getS b p).1 ≤ 12 + li.length then ((((allL li).getD ((getS b p).1.toNat - 1) nof).1, ⟨(textS (b.drop (getS b p).2.1) 0).1.toArray⟩), (textS (b.drop (getS b p).2.1) 0).2)
    else ((⟨#[]⟩, ⟨#[]⟩), (b.drop (getS b p).2.1, 5))
  else ((⟨(textS (b.drop (getS b p).2.1) (getS b p).2.2).1.toArray⟩, ⟨(textS (textS (b.drop (getS b p).2.1) (getS b p).2.2).2.1 (textS (b.drop (getS b p).2.1) (getS b p).2.2).2.2).1.toArray⟩), (textS (textS (b.drop (getS b p).2.1) (getS b p).2.2).2.1 (textS (b.drop (getS b p).2.1) (getS b p).2.2).2.2).2)
theorem rd_other {p : Addr} {v : Value} (h : IsRd w r B b e) (h1 : p.block ≠ r) (h2 : B ≠ some p.block) : IsRd (w.setCell p v) r B b e := by
  obtain ⟨⟨u, a0, a1, a2⟩, c1, f0, f1, ne, bd, ln⟩ := h
  exact ⟨⟨u, (World.cell?_setCell_other _ _ _ _ (by intro e; exact h1 (by rw [e]))).trans a0, bytes_set a1 (by rw [a2]; exact h2), a2⟩, (World.cell?_setCell_other _ _ _ _ (by intro e; exact h1 (by rw [e]))).trans c1, by simpa using f0, by simpa using f1, ne, bd, ln⟩
theorem rd_err (h : IsRd w r B b e) (e' : Nat) : IsRd (w.setCell ⟨r, 1, none⟩ (errV e')) r B b e' := by
  obtain ⟨⟨u, a0, a1, a2⟩, c1, f0, f1, ne, bd, ln⟩ := h
  exact ⟨⟨u, (World.cell?_setCell_other _ _ _ _ (by simp)).trans a0, bytes_set a1 (by rw [a2]; exact ne), a2⟩, World.cell?_setCell_same _ _ _ c1, by simpa using f0, by simpa using f1, ne, bd, ln⟩
/-- Between two calls of literal: the reader, and the field's block F. -/
structure LF (w W : World) (r F : Nat) (B : Option Nat) (b : List Int) (e : Nat) (xa xb : ByteArray) : Prop where
  rd : IsRd W r B b e
  m : Mod (fun k => k = r) w W
  F0 : w.heap.size ≤ F
  FW : F < W.heap.size
  rl : r < w.heap.size
  bl : ∀ k, B = some k → k < w.heap.size
  c0 : W.cell? ⟨F, 0, none⟩ = some (.string xa)
  c1 : W.cell? ⟨F, 1, none⟩ = some (.string xb)
  f0 : W.frozen? ⟨F, 0, none⟩ = false
  f1 : W.frozen? ⟨F, 1, none⟩ = false
variable {W W' : World} {F : Nat} {xa xb ya yb : ByteArray}
theorem LF.moved (h : LF w W r F B b e xa xb) (hR : IsRd W' r B b' e') (hM : Mod (fun k => k = r) W W') : LF w W' r F B b' e' xa xb := by
  have h1 := h.rl
  have h2 := h.F0
  have hb := hM.block F h.FW (by omega)
  exact ⟨hR, h.m.trans hM, h.F0, Nat.lt_of_lt_of_le h.FW hM.size, h.rl, h.bl, (World.cell?_of_block (a := ⟨F, 0, none⟩) hb).trans h.c0, (World.cell?_of_block (a := ⟨F, 1, none⟩) hb).trans h.c1, (World.frozen?_of_block (a := ⟨F, 0, none⟩) hb).trans h.f0, (World.frozen?_of_block (a := ⟨F, 1, none⟩) hb).trans h.f1⟩
theorem LF.below (h : LF w W r F B b e xa xb) (hB : Below W.heap.size W W') : LF w W' r F B b e xa xb := by
  have hs := h.m.size
  refine h.moved (h.rd.of_block (hB.block r h.rd.lt) (fun k hk => hB.block k (by have := h.bl k hk; omega)) hB.size) (Mod.ofBelow hB (fun k hk hge => by omega))
theorem LF.set0 (h : LF w W r F B b e xa xb) (ya : ByteArray) : LF w (W.setCell ⟨F, 0, none⟩ (.string ya)) r F B b e ya xb := by
  have h1 := h.rl
  have h2 := h.F0
  exact ⟨rd_other h.rd (show F ≠ r by omega) (fun e => by have : F < w.heap.size := h.bl F e; omega), h.m.setCell (fun hk => by have : F < w.heap.size := hk; omega) _, h2, by simpa using h.FW, h1, h.bl, World.cell?_setCell_same _ _ _ h.c0, (World.cell?_setCell_other _ _ _ _ (by simp)).trans h.c1, by simpa using h.f0, by simpa using h.f1⟩
theorem LF.set1 (h : LF w W r F B b e xa xb) (yb : ByteArray) : LF w (W.setCell ⟨F, 1, none⟩ (.string yb)) r F B b e xa yb := by
  have h1 := h.rl
  have h2 := h.F0
  exact ⟨rd_other h.rd (show F ≠ r by omega) (fun e => by have : F < w.heap.size := h.bl F e; omega), h.m.setCell (fun hk => by have : F < w.heap.size := hk; omega) _, h2, by simpa using h.FW, h1, h.bl, (World.cell?_setCell_other _ _ _ _ (by simp)).trans h.c0, World.cell?_setCell_same _ _ _ h.c1, by simpa using h.f0, by simpa using h.f1⟩
theorem LF.err (h : LF w W r F B b e xa xb) (e' : Nat) : LF w (W.setCell ⟨r, 1, none⟩ (errV e')) r F B b e' xa xb := by
  have h1 := h.rl
  have h2 := h.F0
  exact ⟨rd_err h.rd e', h.m.setCell (fun _ => rfl) _, h2, by simpa using h.FW, h1, h.bl, (World.cell?_setCell_other _ _ _ _ (by simp)).trans h.c0, (World.cell?_setCell_other _ _ _ _ (by simp)).trans h.c1, by simpa using h.f0, by simpa using h.f1⟩
theorem LF.start (h : RS w g bi r max si Oi B li b 0) (t : TypeId) : LF w (w.alloc (.cells #[.string ⟨#[]⟩, .string ⟨#[]⟩] t)) r w.heap.size B b 0 ⟨#[]⟩ ⟨#[]⟩ := by
  have hB1 : Below w.heap.size w (w.alloc (.cells #[.string ⟨#[]⟩, .string ⟨#[]⟩] t)) := (Below.refl _ _).alloc (Nat.le_refl _) _
  exact ⟨(h.below hB1).rd, Mod.ofBelow hB1 (fun k hk hge => by omega), Nat.le_refl _, by simp, h.rd.lt, h.B0, by simp, by simp, by simp, by simp⟩
set_option maxRecDepth 100000 in
set_option maxHeartbeats 8000000 in
theorem literal_any (h : RS w g bi r max si Oi B li b 0) (hl : li.length ≤ 1000000) (p : Nat) (hp : p = 4 ∨ p = 5 ∨ p = 6 ∨ p = 7) :
    Calls Try.prog 31 #[.pointer (some ⟨g, 0, none⟩), .pointer (some ⟨r, 0, none⟩), .int .i64 p] w fun en w' => en = .returned (fv (litS li b p).1) ∧ RS w' g bi r max si Oi B li (litS li b p).2.1 (litS li b p).2.2 ∧ Mod (fun k => k = r) w w' := by
  have H := Lib.hid h
  have HLL := Lib.hid hl
  have HN := Lib.hid (fun W (hW : IsRd W r B b 0) => rnum_any hW p hp)
  have hn0 : numS b 0 p = ((getS b p).1, b.drop (getS b p).2.1, (getS b p).2.2) := by unfold numS; rw [if_neg (by simp)]
  rw [hn0] at HN
  obtain ⟨R, hR⟩ : ∃ R, litS li b p = R := ⟨_, rfl⟩
  have hls := hR
  rw [hR]
  unfold litS at hls
  generalize getS b p = G at *
  obtain ⟨n, used, er⟩ := G
  simp only at HN hls
  clear hn0 hR h hl
  have HL1 := Lib.hid (LF.start H.out 29)
  have p0 := HL1.out.c0
  have p1 := HL1.out.c1
  have pf0 := HL1.out.f0
  have pf1 := HL1.out.f1
  have hr := H.out.rd.lt
  have hne : r ≠ w.heap.size := by omega
  have hne2 : w.heap.size ≠ r := by omega
  have HMV := Lib.hid (fun W b' e' (hR : IsRd W r B b' e') (hM : Mod (fun k => k = r) w W) => H.out.moved hR hM)
  have e0 : errV 0 = .nilIface := rfl
  by_cases her : er = 0
  · subst her
    by_cases hn : 0 < n
    · obtain ⟨m, rfl⟩ : ∃ m : Nat, n = (m : Int) + 1 := ⟨(n - 1).toNat, by omega⟩
      rw [if_pos ⟨rfl, hn⟩] at hls
      by_cases hm : (m : Int) + 1 ≤ 12 + li.length
      · rw [if_pos hm] at hls
        have hem : ((m : Int) + 1).toNat - 1 = m := by omega
        rw [hem] at hls
        obtain ⟨x, hx⟩ : ∃ x, (allL li).getD m nof = x := ⟨_, rfl⟩
        rw [hx] at hls
        have HGT : Hid (∀ W, IsTable W bi bi max li si → Calls Try.prog 6 #[.pointer (some ⟨bi, 0, none⟩), .int .i64 ((m : Int) + 1)] W fun e w' => e = .returned (.tuple #[.agg #[.string x.1, .string x.2], .nilIface]) ∧ Below W.heap.size W w') := fun W hT => by
          have h := TableC.get_at hT HLL.out m (by omega)
          rwa [hx] at h
        clear hx hm hem
        obtain ⟨xa, xb⟩ := x
        obtain ⟨V, hV⟩ : ∃ V, textS (List.drop used b) 0 = V := ⟨_, rfl⟩
        rw [hV] at hls
        obtain ⟨v1, v2, v3⟩ := V
        have HTX := Lib.hid (fun W (hW : IsRd W r B (List.drop used b) 0) => rtext_any hW)
        rw [hV] at HTX
        have HLS := Lib.hid hls
        clear hls hV
        go_enter Try.func31, Try.ntmps31
        go_wp2_with (first
          | (go_at_call 30; refine (HN.out _ HL1.out.rd).mono ?_; rintro e w2 ⟨rfl, hR2, hM2⟩; have HL2 := Lib.hid (HL1.out.moved hR2 hM2); have RR := HMV.out _ _ _ hR2 HL2.out.m; have y1 := RR.c1; have y2 := RR.rd.c1; have y3 := RR.rd.f1; rw [e0] at y2; have HT2 := Lib.hid RR.tb; clear hR2 hM2 p0 p1 pf0 pf1 RR)
          | (go_at_call 6; refine (HGT.out _ HT2.out).mono ?_; rintro e w3 ⟨rfl, hB3⟩; have HL3 := Lib.hid (HL2.out.below hB3); have x0 := HL3.out.c0; have x1 := HL3.out.c1; have xf0 := HL3.out.f0; have xf1 := HL3.out.f1; have z2 := HL3.out.rd.c1; rw [e0] at z2; have z3 := HL3.out.rd.f1; clear hB3 y1 y2 y3)
          | (go_at_call 36; have HL4 := Lib.hid (((HL3.out.set0 xa).set1 xb).err 0); refine (HTX.out _ HL4.out.rd).mono ?_; rintro e w5 ⟨rfl, hR5, hM5⟩; have HL5 := Lib.hid (HL4.out.moved hR5 hM5); have u0 := HL5.out.c0; have u1 := HL5.out.c1; have uf0 := HL5.out.f0; have uf1 := HL5.out.f1; clear hR5 hM5 x0 x1 xf0 xf1 z2 z3)
          | fail)
        have HL6 := Lib.hid (((HL5.out.set1 ⟨v1.toArray⟩).set0 xa).set1 ⟨v1.toArray⟩)
        have z0 := HL6.out.c0
        have z1 := HL6.out.c1
        refine bodyPost_ret (v := .agg #[.string xa, .string ⟨v1.toArray⟩]) (by simp [results, Try.results31, go_sem, z0, z1]) rfl ?_
        rw [← HLS.out]
        exact ⟨rfl, HMV.out _ _ _ HL6.out.rd HL6.out.m, HL6.out.m⟩
      · rw [if_neg hm] at hls
        have HGT : Hid (∀ W, IsTable W bi bi max li si → Calls Try.prog 6 #[.pointer (some ⟨bi, 0, none⟩), .int .i64 ((m : Int) + 1)] W fun e w' => e = .returned (.tuple #[.agg #[.string ⟨#[]⟩, .string ⟨#[]⟩], .iface 49 (.int .i64 5)]) ∧ Below W.heap.size W w') := fun W hT => TableC.get_none hT HLL.out _ (.inr (by omega))
        clear hm
        have HTX := Lib.hid (fun W (hW : IsRd W r B (List.drop used b) 5) => rtext_any hW)
        have hV : textS (List.drop used b) 5 = ([], List.drop used b, 5) := if_pos (by decide)
        rw [hV] at HTX
        have HLS := Lib.hid hls
        clear hls hV
        go_enter Try.func31, Try.ntmps31
        go_wp2_with (first
          | (go_at_call 30; refine (HN.out _ HL1.out.rd).mono ?_; rintro e w2 ⟨rfl, hR2, hM2⟩; have HL2 := Lib.hid (HL1.out.moved hR2 hM2); have RR := HMV.out _ _ _ hR2 HL2.out.m; have y1 := RR.c1; have y2 := RR.rd.c1; have y3 := RR.rd.f1; rw [e0] at y2; have HT2 := Lib.hid RR.tb; clear hR2 hM2 p0 p1 pf0 pf1 RR)
          | (go_at_call 6; refine (HGT.out _ HT2.out).mono ?_; rintro e w3 ⟨rfl, hB3⟩; have HL3 := Lib.hid (HL2.out.below hB3); have x0 := HL3.out.c0; have x1 := HL3.out.c1; have xf0 := HL3.out.f0; have xf1 := HL3.out.f1; have z2 := HL3.out.rd.c1; rw [e0] at z2; have z3 := HL3.out.rd.f1; clear hB3 y1 y2 y3)
          | (go_at_call 36; have HL4 := Lib.hid (((HL3.out.set0 ⟨#[]⟩).set1 ⟨#[]⟩).err 5); refine (HTX.out _ HL4.out.rd).mono ?_; rintro e w5 ⟨rfl, hR5, hM5⟩; have HL5 := Lib.hid (HL4.out.moved hR5 hM5); have u0 := HL5.out.c0; have u1 := HL5.out.c1; have uf0 := HL5.out.f0; have uf1 := HL5.out.f1; clear hR5 hM5 x0 x1 xf0 xf1 z2 z3)
          | fail)
        have HL6 := Lib.hid (((HL5.out.set1 ⟨#[]⟩).set0 ⟨#[]⟩).set1 ⟨#[]⟩)
        have z0 := HL6.out.c0
        have z1 := HL6.out.c1
        refine bodyPost_ret (v := .agg #[.string ⟨#[]⟩, .string ⟨#[]⟩]) (by simp [results, Try.results31, go_sem, z0, z1]) rfl ?_
        rw [← HLS.out]
        exact ⟨rfl, HMV.out _ _ _ HL6.out.rd HL6.out.m, HL6.out.m⟩
    · rw [if_neg (by simp; omega)] at hls
      have hn2 : ¬ 0 < n := hn
      obtain ⟨V, hV⟩ : ∃ V, textS (List.drop used b) 0 = V := ⟨_, rfl⟩
      rw [hV] at hls
      obtain ⟨v1, v2, v3⟩ := V
      simp only at hls
      obtain ⟨U, hU⟩ : ∃ U, textS v2 v3 = U := ⟨_, rfl⟩
      rw [hU] at hls
      obtain ⟨u1, u2, u3⟩ := U
      have HTX := Lib.hid (fun W (hW : IsRd W r B (List.drop used b) 0) => rtext_any hW)
      rw [hV] at HTX
      have HTY := Lib.hid (fun W (hW : IsRd W r B v2 v3) => rtext_any hW)
      rw [hU] at HTY
      have HLS := Lib.hid hls
      clear hls hV hU
      go_enter Try.func31, Try.ntmps31
      go_wp2_with (first
        | (go_at_call 30; refine (HN.out _ HL1.out.rd).mono ?_; rintro e w2 ⟨rfl, hR2, hM2⟩; have HL2 := Lib.hid (HL1.out.moved hR2 hM2); have RR := HMV.out _ _ _ hR2 HL2.out.m; have y1 := RR.c1; have y2 := RR.rd.c1; have y3 := RR.rd.f1; rw [e0] at y2; have x0 := HL2.out.c0; have x1 := HL2.out.c1; have xf0 := HL2.out.f0; have xf1 := HL2.out.f1; clear hR2 hM2 p0 p1 pf0 pf1 RR)
        | (go_at_call 36; refine (HTX.out _ HL2.out.rd).mono ?_; rintro e w3 ⟨rfl, hR3, hM3⟩; have HL3 := Lib.hid (HL2.out.moved hR3 hM3); have t0 := HL3.out.c0; have t1 := HL3.out.c1; have tf0 := HL3.out.f0; have tf1 := HL3.out.f1; clear hR3 hM3 x0 x1 xf0 xf1 y1 y2 y3)
        | (go_at_call 36; have HL4 := Lib.hid (HL3.out.set0 ⟨v1.toArray⟩); refine (HTY.out _ HL4.out.rd).mono ?_; rintro e w5 ⟨rfl, hR5, hM5⟩; have HL5 := Lib.hid (HL4.out.moved hR5 hM5); have q0 := HL5.out.c0; have q1 := HL5.out.c1; have qf0 := HL5.out.f0; have qf1 := HL5.out.f1; clear hR5 hM5 t0 t1 tf0 tf1)
        | fail)
      have HL6 := Lib.hid (((HL5.out.set1 ⟨u1.toArray⟩).set0 ⟨v1.toArray⟩).set1 ⟨u1.toArray⟩)
      have z0 := HL6.out.c0
      have z1 := HL6.out.c1
      refine bodyPost_ret (v := .agg #[.string ⟨v1.toArray⟩, .string ⟨u1.toArray⟩]) (by simp [results, Try.results31, go_sem, z0, z1]) rfl ?_
      rw [← HLS.out]
      exact ⟨rfl, HMV.out _ _ _ HL6.out.rd HL6.out.m, HL6.out.m⟩
  · rw [if_neg (by simp [her])] at hls
    have e1 : errV er = .iface 49 (.int .i64 er) := if_neg her
    obtain ⟨V, hV⟩ : ∃ V, textS (List.drop used b) er = V := ⟨_, rfl⟩
    rw [hV] at hls
    obtain ⟨v1, v2, v3⟩ := V
    simp only at hls
    obtain ⟨U, hU⟩ : ∃ U, textS v2 v3 = U := ⟨_, rfl⟩
    rw [hU] at hls
    obtain ⟨u1, u2, u3⟩ := U
    have HTX := Lib.hid (fun W (hW : IsRd W r B (List.drop used b) er) => rtext_any hW)
    rw [hV] at HTX
    have HTY := Lib.hid (fun W (hW : IsRd W r B v2 v3) => rtext_any hW)
    rw [hU] at HTY
    have HLS := Lib.hid hls
    clear hls hV hU
    go_enter Try.func31, Try.ntmps31
    go_wp2_with (first
      | (go_at_call 30; refine (HN.out _ HL1.out.rd).mono ?_; rintro e w2 ⟨rfl, hR2, hM2⟩; have HL2 := Lib.hid (HL1.out.moved hR2 hM2); have RR := HMV.out _ _ _ hR2 HL2.out.m; have y1 := RR.c1; have y2 := RR.rd.c1; have y3 := RR.rd.f1; rw [e1] at y2; have x0 := HL2.out.c0; have x1 := HL2.out.c1; have xf0 := HL2.out.f0; have xf1 := HL2.out.f1; clear hR2 hM2 p0 p1 pf0 pf1 RR)
      | (go_at_call 36; refine (HTX.out _ HL2.out.rd).mono ?_; rintro e w3 ⟨rfl, hR3, hM3⟩; have HL3 := Lib.hid (HL2.out.moved hR3 hM3); have t0 := HL3.out.c0; have t1 := HL3.out.c1; have tf0 := HL3.out.f0; have tf1 := HL3.out.f1; clear hR3 hM3 x0 x1 xf0 xf1 y1 y2 y3)
      | (go_at_call 36; have HL4 := Lib.hid (HL3.out.set0 ⟨v1.toArray⟩); refine (HTY.out _ HL4.out.rd).mono ?_; rintro e w5 ⟨rfl, hR5, hM5⟩; have HL5 := Lib.hid (HL4.out.moved hR5 hM5); have q0 := HL5.out.c0; have q1 := HL5.out.c1; have qf0 := HL5.out.f0; have qf1 := HL5.out.f1; clear hR5 hM5 t0 t1 tf0 tf1)
      | fail)
    have HL6 := Lib.hid (((HL5.out.set1 ⟨u1.toArray⟩).set0 ⟨v1.toArray⟩).set1 ⟨u1.toArray⟩)
    have z0 := HL6.out.c0
    have z1 := HL6.out.c1
    refine bodyPost_ret (v := .agg #[.string ⟨v1.toArray⟩, .string ⟨u1.toArray⟩]) (by simp [results, Try.results31, go_sem, z0, z1]) rfl ?_
    rw [← HLS.out]
    exact ⟨rfl, HMV.out _ _ _ HL6.out.rd HL6.out.m, HL6.out.m⟩
end Go.Proofs.Ytbbhinhledkceaa.HeadF
