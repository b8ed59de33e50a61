/-
  head's writer over this seat's translation: num and text, exactly; the writer's row in a block that is followed.
  Conditions: the bounds that stand in each.
-/
import Derived.Test.YtbbhinhledkceaaHeadText
import Derived.Test.YtbbhinhledkceaaMod
namespace Go.Proofs.Ytbbhinhledkceaa.HeadC
open Go.RowKit CodeC WireC BA ModL
set_option linter.unusedVariables false
set_option linter.unusedSimpArgs false

/-- A writer at block g that holds l in a row of the call's own (from base on), the row in block O. -/
structure IsWr (w : World) (g base : Nat) (O : Option Nat) (l : List Int) : Prop where
  c0 : ∃ v, w.cell? ⟨g, 0, none⟩ = some v ∧ BytesL.Own w base v l ∧ v.ownBlock = O
  f0 : w.frozen? ⟨g, 0, none⟩ = false
  ne : g < base
theorem IsWr.lt {w : World} {g base : Nat} {O : Option Nat} {l : List Int} (h : IsWr w g base O l) : g < w.heap.size := by
  obtain ⟨⟨v, hc, _⟩, _⟩ := h
  exact block_lt_of_cell hc
set_option maxRecDepth 100000 in
set_option maxHeartbeats 4000000 in
theorem wnum_any {w : World} {g base : Nat} {O : Option Nat} {l : List Int} (h : IsWr w g base O l) (hbase : base ≤ w.heap.size) (hl : l.length ≤ 1099511627776) (n bits first : Int) (hn : 0 ≤ n ∧ n ≤ 2147483647) (hb : 4 ≤ bits ∧ bits ≤ 7) (hf1 : 0 ≤ first) (hf2 : first ≤ 255) (hf3 : first % 2 ^ bits.toNat = 0) :
    Calls Try.prog 22 #[.pointer (some ⟨g, 0, none⟩), .int .i64 n, .int .i64 bits, .int .i64 first] w fun e w' => e = .returned (.tuple #[]) ∧ ∃ O', (O' = O ∨ ∃ k, w.heap.size ≤ k ∧ O' = some k) ∧ IsWr w' g base O' (l ++ putL n bits first) ∧ Mod (fun k => k = g ∨ some k = O) w w' := by
  have hlt := h.lt
  obtain ⟨⟨v, hc0, hO, hv⟩, hf0, hne⟩ := h
  obtain ⟨a0, c0, rfl, -⟩ := hO.slice
  obtain ⟨ln, hln⟩ : ∃ ln, l.length = ln := ⟨_, rfl⟩
  rw [hln] at hc0 hO hv hl
  have HLN := Lib.hid hln
  clear hln
  have HP := Lib.hid (put_any n bits first w (by omega) hf1 hf2 (fun _ _ => hf3))
  have HO := Lib.hid hO
  have HV := Lib.hid hv
  have HNE := Lib.hid hne
  have HNB := Lib.hid hb
  have HNN := Lib.hid hn
  have HLL := Lib.hid hl
  have HPL : Hid ((putL n bits first).length ≤ 6) := putL_len _ _ _
  clear hO hv hne hn hb hf1 hf2 hf3 hl
  go_enter Try.func22, Try.ntmps22
  go_wp2_with (first
    | (go_at_call 28; (with_reducible refine HP.out.mono ?_); rintro e w1 (⟨-, -, -, -, a5, c5, rfl, hO5, hB5⟩ | ⟨hbad, -, -⟩); rotate_left; exact absurd hbad (by have := HNB.out; have := HNN.out; omega); have k0 := (hB5.cell (p := ⟨g, 0, none⟩) hlt).trans hc0; have k1 := (hB5.frozen (p := ⟨g, 0, none⟩) hlt).trans hf0; have HB5 := Lib.hid hB5; have HX5 := Lib.hid (BytesAt.of_own hO5); clear hO5 hB5)
    | (at_builtin; refine SlicesB.wpList_append_bytes rfl _ _ rfl base (.slice a0 ln c0) l rfl (HO.out.below HB5.out) _ _ rfl HX5.out (by have := HPL.out; have := HLL.out; have := HLN.out; omega) (by have := HB5.out.size; omega) ?_; intro v6 w6 hO6 hB6 hg6 hh6; have k2 := (hB6.cell (p := ⟨g, 0, none⟩) HNE.out).trans k0; have k3 := (hB6.frozen (p := ⟨g, 0, none⟩) HNE.out).trans k1; clear k0 k1; obtain ⟨a6, c6, rfl, -⟩ := hO6.slice; have HO6 := Lib.hid hO6; have HG6 := Lib.hid hg6; have HH6 := Lib.hid hh6; clear hO6 hB6 hg6 hh6)
    | fail)
  go_end0
  refine ⟨rfl, _, ?_, ⟨⟨_, World.cell?_setCell_same _ _ _ k2, ?_, rfl⟩, by simpa using k3, HNE.out⟩, ?_⟩
  · have hh := HH6.out
    rw [List.length_append] at hh
    rcases hh with e | e
    · exact .inl (e.trans HV.out)
    · exact .inr ⟨_, HB5.out.size, e⟩
  · have h := HO6.out
    rw [List.length_append] at h
    exact own_setCell h _ HNE.out _
  · exact (((Mod.ofBelow HB5.out (fun k hk hge => by omega)).grown HG6.out (fun k hk _ => .inr (by rw [← HV.out]; exact hk.symm)))).setCell (fun _ => .inl rfl) _
theorem textL_len6 (s : ByteArray) (hs : s.size ≤ 400) : (textL s.data.toList).length ≤ 466 := by
  have hsl : s.data.toList.length = s.size := by rw [Array.length_toList]; rfl
  have h1 : ∀ n b f : Int, (putL n b f).length ≤ 6 := putL_len
  unfold textL
  split
  · rename_i hc
    rw [List.length_append, intsU_len]
    have := h1 (s.data.toList.length : Nat) (7 : Nat) 0
    omega
  · rename_i hc
    rw [List.length_append]
    have := h1 ((codeL s.data.toList).length : Nat) (7 : Nat) 128
    omega
set_option maxRecDepth 100000 in
set_option maxHeartbeats 4000000 in
theorem wtext_any {w : World} {g base : Nat} {O : Option Nat} {l : List Int} (h : IsWr w g base O l) (hbase : base ≤ w.heap.size) (hl : l.length ≤ 1099511627776) (s : ByteArray) (hs : s.size ≤ 400) :
    Calls Try.prog 23 #[.pointer (some ⟨g, 0, none⟩), .string s] w fun e w' => e = .returned (.tuple #[]) ∧ ∃ O', (O' = O ∨ ∃ k, w.heap.size ≤ k ∧ O' = some k) ∧ IsWr w' g base O' (l ++ textL s.data.toList) ∧ Mod (fun k => k = g ∨ some k = O) w w' := by
  have hlt := h.lt
  obtain ⟨⟨v, hc0, hO, hv⟩, hf0, hne⟩ := h
  obtain ⟨a0, c0, rfl, -⟩ := hO.slice
  obtain ⟨ln, hln⟩ : ∃ ln, l.length = ln := ⟨_, rfl⟩
  rw [hln] at hc0 hO hv hl
  have HLN := Lib.hid hln
  clear hln
  have HP := Lib.hid (text_ok s w hs)
  have HO := Lib.hid hO
  have HV := Lib.hid hv
  have HNE := Lib.hid hne
  have HLL := Lib.hid hl
  obtain ⟨T, hT⟩ : ∃ T, textL s.data.toList = T := ⟨_, rfl⟩
  have hTL : T.length ≤ 466 := by rw [← hT]; exact textL_len6 s hs
  rw [hT] at HP ⊢
  have HPL := Lib.hid hTL
  clear hO hv hne hl hs hT hTL
  go_enter Try.func23, Try.ntmps23
  go_wp2_with (first
    | (go_at_call 29; (with_reducible refine HP.out.mono ?_); rintro e w1 ⟨v5, rfl, hO5, hB5⟩; obtain ⟨a5, c5, rfl, -⟩ := hO5.slice; have k0 := (hB5.cell (p := ⟨g, 0, none⟩) hlt).trans hc0; have k1 := (hB5.frozen (p := ⟨g, 0, none⟩) hlt).trans hf0; have HB5 := Lib.hid hB5; have HX5 := Lib.hid (BytesAt.of_own hO5); clear hO5 hB5)
    | (at_builtin; refine SlicesB.wpList_append_bytes rfl _ _ rfl base (.slice a0 ln c0) l rfl (HO.out.below HB5.out) _ _ rfl HX5.out (by have := HPL.out; have := HLL.out; have := HLN.out; omega) (by have := HB5.out.size; omega) ?_; intro v6 w6 hO6 hB6 hg6 hh6; have k2 := (hB6.cell (p := ⟨g, 0, none⟩) HNE.out).trans k0; have k3 := (hB6.frozen (p := ⟨g, 0, none⟩) HNE.out).trans k1; clear k0 k1; obtain ⟨a6, c6, rfl, -⟩ := hO6.slice; have HO6 := Lib.hid hO6; have HG6 := Lib.hid hg6; have HH6 := Lib.hid hh6; clear hO6 hB6 hg6 hh6)
    | fail)
  go_end0
  refine ⟨rfl, _, ?_, ⟨⟨_, World.cell?_setCell_same _ _ _ k2, ?_, rfl⟩, by simpa using k3, HNE.out⟩, ?_⟩
  · have hh := HH6.out
    rw [List.length_append] at hh
    rcases hh with e | e
    · exact .inl (e.trans HV.out)
    · exact .inr ⟨_, HB5.out.size, e⟩
  · have h := HO6.out
    rw [List.length_append] at h
    exact own_setCell h _ HNE.out _
  · exact (((Mod.ofBelow HB5.out (fun k hk hge => by omega)).grown HG6.out (fun k hk _ => .inr (by rw [← HV.out]; exact hk.symm)))).setCell (fun _ => .inl rfl) _
end Go.Proofs.Ytbbhinhledkceaa.HeadC
