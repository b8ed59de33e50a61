/-
  The law ChunkCuts answers true.
  Conditions: the table of math/bits, and errors.errorType, as they are laid.
-/
import Derived.Test.YtincckopnebceaaDoorChunkRefB
import Derived.Test.YtincckopnebceaaDoorChunkRefC
import Derived.Test.YtincckopnebceaaDoorBytesArg
import Derived.Test.YtincckopnebceaaDoorTold
namespace Go.Proofs.YtincckopnebceaaDoor.WalkChunkCuts
open Go.RowKit Go.Shelf BA ChunkI HexC ChunkC ChunkD ChunkR ToldC
set_option linter.unusedVariables false
set_option linter.unusedSimpArgs false

theorem dec_bad {b : List Int} : ∀ f p body, (dec b f p body).2.2 ≠ 0 → (dec b f p body).1 = [] ∧ (dec b f p body).2.1 = 0 := by
  intro f
  induction f with
  | zero => intro p body _; simp [dec]
  | succ f ih =>
    intro p body h
    obtain ⟨⟨n, q, e⟩, hn⟩ : ∃ r, num b p (8000 - body.length) (b.length + 1) p 0 = r := ⟨_, rfl⟩
    by_cases he : e = 0
    · subst he
      obtain ⟨⟨m, e1⟩, hm⟩ : ∃ r, mt b [13, 10] q = r := ⟨_, rfl⟩
      by_cases he1 : e1 = 0
      · subst he1
        obtain ⟨⟨m2, e2⟩, hm2⟩ : ∃ r, mt b [13, 10] (m + n) = r := ⟨_, rfl⟩
        by_cases he2 : e2 = 0
        · subst he2
          by_cases h0 : n = 0
          · subst h0
            rw [dec_end hn hm hm2] at h; exact absurd rfl h
          · rw [dec_step hn hm hm2 h0] at h ⊢; exact ih _ _ h
        · rw [dec_mt2 hn hm hm2 he2]; exact ⟨rfl, rfl⟩
      · rw [dec_mt hn hm he1]; exact ⟨rfl, rfl⟩
    · rw [dec_num hn he]; exact ⟨rfl, rfl⟩
theorem dec_bd {b : List Int} (hb : ∀ z ∈ b, 0 ≤ z ∧ z ≤ 255) : ∀ f p body, (∀ z ∈ body, 0 ≤ z ∧ z ≤ 255) → ∀ z ∈ (dec b f p body).1, 0 ≤ z ∧ z ≤ 255 := by
  intro f
  induction f with
  | zero => intro p body _ z hz; simp [dec] at hz
  | succ f ih =>
    intro p body h z
    obtain ⟨⟨n, q, e⟩, hn⟩ : ∃ r, num b p (8000 - body.length) (b.length + 1) p 0 = r := ⟨_, rfl⟩
    by_cases he : e = 0
    · subst he
      obtain ⟨⟨m, e1⟩, hm⟩ : ∃ r, mt b [13, 10] q = r := ⟨_, rfl⟩
      by_cases he1 : e1 = 0
      · subst he1
        obtain ⟨⟨m2, e2⟩, hm2⟩ : ∃ r, mt b [13, 10] (m + n) = r := ⟨_, rfl⟩
        by_cases he2 : e2 = 0
        · subst he2
          by_cases h0 : n = 0
          · subst h0
            rw [dec_end hn hm hm2]; exact h z
          · rw [dec_step hn hm hm2 h0]
            refine ih _ _ (fun x hx => ?_) z
            rcases List.mem_append.1 hx with hx | hx
            · exact h x hx
            · exact hb x (List.mem_of_mem_drop (List.mem_of_mem_take hx))
        · rw [dec_mt2 hn hm hm2 he2]; intro hz; cases hz
      · rw [dec_mt hn hm he1]; intro hz; cases hz
    · rw [dec_num hn he]; intro hz; cases hz
theorem enc_bd {l : List Int} (hl : ∀ z ∈ l, 0 ≤ z ∧ z ≤ 255) (sz k : Nat) : ∀ z ∈ encAll (upto (cut l sz) k) ++ tail5, 0 ≤ z ∧ z ≤ 255 := by
  intro z hz
  rcases List.mem_append.1 hz with hz | hz
  · obtain ⟨q, hq, hz⟩ := List.mem_flatMap.1 hz
    obtain ⟨j, _, rfl⟩ := List.mem_map.1 hq
    simp only [enc1, List.mem_append] at hz
    rcases hz with ((hz | hz) | hz) | hz
    · exact hexL_bd _ z hz
    · simp at hz; omega
    · exact hl z (List.mem_of_mem_drop (List.mem_of_mem_take hz))
    · simp at hz; omega
  · simp [tail5] at hz; omega
theorem at_nil (w : World) : BytesAt w (.slice none 0 0) [] := BytesAt.of_own (b := 0) (BytesL.Own.nil _ _)
/-- What both write. -/
theorem both (a : Option Addr) (cap : Nat) (l : List Int) (size : Int) (w : World) (hv : BytesAt w (.slice a l.length cap) l) (hl : ∀ z ∈ l, 0 ≤ z ∧ z ≤ 255) (hT : Tab16 w) : ∃ (E : List Int) (k : Nat) (er : Value), ErrIs er k ∧ (∀ z ∈ E, 0 ≤ z ∧ z ≤ 255) ∧
    (∀ w1, Below w.heap.size w w1 → Calls Tryd.prog 9 #[.slice a l.length cap, .int .i64 size] w1 fun e w' => ∃ v c, e = .returned (.tuple #[.slice v E.length c, .int .i64 k]) ∧ BytesAt w' (.slice v E.length c) E ∧ Below w1.heap.size w1 w') ∧
    (∀ w1, Below w.heap.size w w1 → Calls Tryd.prog 8 #[.slice a l.length cap, .int .i64 size] w1 fun e w' => ∃ v c, e = .returned (.tuple #[.slice v E.length c, er]) ∧ BytesAt w' (.slice v E.length c) E ∧ Below w1.heap.size w1 w') := by
  by_cases hr : size < 1 ∨ 8000 < size
  · refine ⟨[], 1, .iface 56 (.int .i64 1), .err 1, by simp, fun w1 _ => ?_, fun w1 _ => ?_⟩
    · exact (chunks_range _ size w1 hr).mono fun e w' ⟨h1, h2⟩ => ⟨none, 0, h1, at_nil _, by rw [← h2]; exact Below.refl _ _⟩
    · exact (encode_range _ size w1 hr).mono fun e w' ⟨h1, h2⟩ => ⟨none, 0, h1, at_nil _, by rw [← h2]; exact Below.refl _ _⟩
  · have h1 : ¬ size < 1 := fun h => hr (.inl h)
    have h2 : ¬ 8000 < size := fun h => hr (.inr h)
    by_cases hlen : 8000 < l.length
    · refine ⟨[], 4, .iface 56 (.int .i64 4), .err 4, by simp, fun w1 _ => ?_, fun w1 _ => ?_⟩
      · exact (chunks_full a l.length cap size w1 h1 h2 hlen).mono fun e w' ⟨h1, h2⟩ => ⟨none, 0, h1, at_nil _, by rw [← h2]; exact Below.refl _ _⟩
      · exact (encode_full a l.length cap size w1 h1 h2 hlen).mono fun e w' ⟨h1, h2⟩ => ⟨none, 0, h1, at_nil _, by rw [← h2]; exact Below.refl _ _⟩
    · obtain ⟨sz, rfl⟩ : ∃ sz : Nat, size = sz := ⟨size.toNat, by omega⟩
      refine ⟨encAll (upto (cut l sz) (pieces l.length sz)) ++ tail5, 0, .nilIface, .nil, enc_bd hl _ _, fun w1 hB => ?_, fun w1 hB => ?_⟩
      · exact (chunks_ok a cap sz l w1 (hv.below hB) ⟨by omega, by omega⟩ (by omega)).mono fun e w' ⟨v, c, h1, h2, h3⟩ => ⟨v, c, h1, BytesAt.of_own h2, h3⟩
      · exact (encode_ok a cap sz l w1 (hv.below hB) ⟨by omega, by omega⟩ (by omega) (hT.below hB hT.2)).mono fun e w' ⟨v, h1, h2, h3⟩ => by
          obtain ⟨a1, c1, rfl, _⟩ := h2.slice
          exact ⟨a1, c1, h1, BytesAt.of_own h2, h3⟩
/-- What both read. -/
theorem bothD (a : Option Addr) (cap : Nat) (b : List Int) (w : World) (hv : BytesAt w (.slice a b.length cap) b) (hl : ∀ z ∈ b, 0 ≤ z ∧ z ≤ 255) : ∃ (B : List Int) (u k : Nat) (er : Value), ErrIs er k ∧ (∀ z ∈ B, 0 ≤ z ∧ z ≤ 255) ∧
    (∀ w1, Below w.heap.size w w1 → Calls Tryd.prog 11 #[.slice a b.length cap] w1 fun e w' => ∃ v c, e = .returned (.tuple #[.slice v B.length c, .int .i64 u, .int .i64 k]) ∧ BytesAt w' (.slice v B.length c) B ∧ Below w1.heap.size w1 w') ∧
    (∀ w1, Below w.heap.size w w1 → Calls Tryd.prog 12 #[.slice a b.length cap] w1 fun e w' => ∃ v c, e = .returned (.tuple #[.slice v B.length c, .int .i64 u, er]) ∧ BytesAt w' (.slice v B.length c) B ∧ Below w1.heap.size w1 w') := by
  obtain ⟨R, hR⟩ : ∃ R, dec b (b.length + 1) 0 [] = R := ⟨_, rfl⟩
  by_cases he : R.2.2 = 0
  · refine ⟨R.1, R.2.1, 0, .nilIface, .nil, by rw [← hR]; exact dec_bd hl _ _ _ (by simp), fun w1 hB => ?_, fun w1 hB => ?_⟩
    · have h := unchunk_any a cap b w1 (hv.below hB) hl
      rw [hR] at h
      refine h.mono ?_
      rintro e w' ⟨hB1, ⟨_, a1, c1, rfl, hO⟩ | ⟨h, _⟩⟩
      · exact ⟨a1, c1, rfl, BytesAt.of_own hO, hB1⟩
      · exact absurd he h
    · have h := decode_any a cap b w1 (hv.below hB) hl
      rw [hR] at h
      refine h.mono ?_
      rintro e w' ⟨hB1, ⟨_, a1, c1, rfl, hO⟩ | ⟨h, _⟩⟩
      · exact ⟨a1, c1, rfl, BytesAt.of_own hO, hB1⟩
      · exact absurd he h
  · refine ⟨[], 0, R.2.2, .iface 56 (.int .i64 R.2.2), .err _, by simp, fun w1 hB => ?_, fun w1 hB => ?_⟩
    · have h := unchunk_any a cap b w1 (hv.below hB) hl
      rw [hR] at h
      refine h.mono ?_
      rintro e w' ⟨hB1, ⟨h, _⟩ | ⟨_, rfl⟩⟩
      · exact absurd h he
      · exact ⟨none, 0, rfl, at_nil _, hB1⟩
    · have h := decode_any a cap b w1 (hv.below hB) hl
      rw [hR] at h
      refine h.mono ?_
      rintro e w' ⟨hB1, ⟨h, _⟩ | ⟨_, rfl⟩⟩
      · exact absurd h he
      · exact ⟨none, 0, rfl, at_nil _, hB1⟩
set_option maxRecDepth 100000 in
set_option maxHeartbeats 2000000 in
theorem walk (v : Value) (l : List Int) (size : Int) (vb : Value) (b : List Int) (w : World) (hv : Args.BytesAt w v l) (hs : Args.I64 size) (hvb : Args.BytesAt w vb b) (hT : Tab16 w)
    (hg : w.cell? ⟨0, 0, none⟩ = some (.iface 134 (.agg #[.pointer (some ⟨7, 24, none⟩)]))) :
    Calls Tryd.prog 4 #[v, .int .i64 size, vb] w fun e w' => e = .returned (.bool true) ∧ Below w.heap.size w w' := by
  obtain ⟨hv, hvl⟩ := hv
  obtain ⟨hvb, hbl⟩ := hvb
  have hlt : 0 < w.heap.size := by
    rcases Nat.lt_or_ge 0 w.heap.size with h | h
    · exact h
    · simp [World.cell?, Array.getElem?_eq_none h] at hg
  obtain ⟨a, cap, rfl, _⟩ := hv.open
  obtain ⟨a2, cap2, rfl, _⟩ := hvb.open
  obtain ⟨E, k, er, hEk, hEb, hC, hEn⟩ := both a cap l size w hv hvl hT
  obtain ⟨B, u, k2, er2, hEk2, hBb, hU, hD⟩ := bothD a2 cap2 b w hvb hbl
  have HG := Lib.hid (fun w1 (hB : Below w.heap.size w w1) => (hB.cell (p := ⟨0, 0, none⟩) hlt).trans hg)
  have HC := Lib.hid hC
  have HEn := Lib.hid hEn
  have HU := Lib.hid hU
  have HD := Lib.hid hD
  have HE1 := Lib.hid hEk
  have HE2 := Lib.hid hEk2
  obtain ⟨n, hn⟩ : ∃ n, l.length = n := ⟨_, rfl⟩
  obtain ⟨n2, hn2⟩ : ∃ n, b.length = n := ⟨_, rfl⟩
  rw [hn] at HC HEn ⊢
  rw [hn2] at HU HD ⊢
  clear hv hvb hC hEn hU hD hEk hEk2 hg hvl hbl hT hn hn2
  go_enter Tryd.func4, Tryd.ntmps4
  go_wp2_with (first
    | (go_at_call 9; (with_reducible refine (HC.out w (Below.refl _ _)).mono ?_); rintro e w1 ⟨x1, c1, rfl, hx1, hB1⟩; have HX1 := Lib.hid hx1; have hs1 := hB1.size; clear hx1)
    | (go_at_call 8; (with_reducible refine (HEn.out w1 hB1).mono ?_); rintro e w2 ⟨x2, c2, rfl, hx2, hB2⟩; have HX2 := Lib.hid hx2; have hBb2 := hB1.trans (hB2.mono hs1); have hs2 := hBb2.size; clear hx2)
    | (go_at_call 10; (with_reducible refine (error_any HE1.out k w2 (HG.out w2 hBb2)).mono ?_); rintro e w3 ⟨rfl, hB3⟩; have hBb3 := hBb2.trans (hB3.mono hs2); have hs3 := hBb3.size)
    | (go_at_call 11; (with_reducible refine (HU.out w3 hBb3).mono ?_); rintro e w4 ⟨x4, c4, rfl, hx4, hB4⟩; have HX4 := Lib.hid hx4; have hBb4 := hBb3.trans (hB4.mono hs3); have hs4 := hBb4.size; clear hx4)
    | (go_at_call 12; (with_reducible refine (HD.out w4 hBb4).mono ?_); rintro e w5 ⟨x5, c5, rfl, hx5, hB5⟩; have HX5 := Lib.hid hx5; have hBb5 := hBb4.trans (hB5.mono hs4); have hs5 := hBb5.size; clear hx5)
    | (go_at_call 10; (with_reducible refine (error_any HE2.out k2 w5 (HG.out w5 hBb5)).mono ?_); rintro e w6 ⟨rfl, hB6⟩; have hBb6 := hBb5.trans (hB6.mono hs5); have hcv1 := conv_back ((((HX1.out.below hB2).below hB3).below hB4).below hB5 |>.below hB6) hEb; have hcv2 := conv_back (((HX2.out.below hB3).below hB4).below hB5 |>.below hB6) hEb; have hcv4 := conv_back ((HX4.out.below hB5).below hB6) hBb; have hcv5 := conv_back (HX5.out.below hB6) hBb))
  go_ret
  exact ⟨rfl, hBb6⟩
end Go.Proofs.YtincckopnebceaaDoor.WalkChunkCuts
