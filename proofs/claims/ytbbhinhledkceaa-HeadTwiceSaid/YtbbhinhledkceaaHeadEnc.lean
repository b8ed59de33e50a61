/-
  Coder.Encode over this seat's translation, exactly.
  Conditions: the bounds that stand in each.
-/
import Derived.Test.YtbbhinhledkceaaHeadNew
import Derived.Test.YtbbhinhledkceaaHeadFull
import Derived.Test.YtbbhinhledkceaaHeadNum
import Derived.Test.YtbbhinhledkceaaTableFind
import Derived.Test.YtbbhinhledkceaaHeadEncS
namespace Go.Proofs.Ytbbhinhledkceaa.HeadF
open Go.RowKit RowsK FieldRows ModL TableC HeadC CodeC WireC
set_option linter.unusedVariables false
set_option linter.unusedSimpArgs false

set_option maxRecDepth 100000 in
set_option maxHeartbeats 8000000 in
theorem henc_full (v : Value) (l : List Fld) (w : World) (g : Nat) (hl : At encF w v l) (hf : fullB l = true) :
    Calls Try.prog 11 #[.pointer (some ⟨g, 0, none⟩), v] w fun e w' => e = .returned (.tuple #[.slice none 0 0, .iface 49 (.int .i64 4)]) ∧ Below w.heap.size w w' := by
  have HF := Lib.hid (full_any v l w hl)
  rw [hf] at HF
  obtain ⟨a, cap, rfl, hcap, hcap2, _, hel⟩ := hl
  clear hel hf
  go_enter Try.func11, Try.ntmps11
  go_wp2_with (first
    | (go_at_call 21; refine HF.out.mono ?_; rintro e w2 ⟨rfl, hB2⟩; have HB2 := Lib.hid hB2; clear hB2)
    | fail)
  go_ret2
  exact ⟨rfl, HB2.out⟩
set_option maxRecDepth 100000 in
set_option maxHeartbeats 8000000 in
theorem henc_long (v : Value) (l : List Fld) (w : World) (g : Nat) (hl : At encF w v l) (hf : fullB l = false) (hlong : longB l = true) :
    Calls Try.prog 11 #[.pointer (some ⟨g, 0, none⟩), v] w fun e w' => e = .returned (.tuple #[.slice none 0 0, .iface 49 (.int .i64 4)]) ∧ Below w.heap.size w w' := by
  have HF := Lib.hid (full_any v l w hl)
  rw [hf] at HF
  obtain ⟨a, cap, rfl, hcap, hcap2, _, hel⟩ := hl
  have HEL := Lib.hid hel
  have HLG := Lib.hid hlong
  clear hel hf hlong
  have hn : (l.length : Int) ≤ 9223372036854775807 := by omega
  go_enter Try.func11, Try.ntmps11
  go_wp2_with (first
    | (go_at_call 21; refine HF.out.mono ?_; rintro e w2 ⟨rfl, hB2⟩; have HB2 := Lib.hid hB2; clear hB2)
    | fail)
  go_loopw [23] (fun iv wi => ∃ (i : Nat), iv = .int .i64 i ∧ i ≤ l.length ∧ Hid (longB (l.drop i) = true) ∧ Below w.heap.size w wi) (fun iv _ => l.length - (intOf iv).toNat)
  case atStart => exact ⟨0, rfl, by omega, HLG, HB2.out⟩
  case round =>
    obtain ⟨i, rfl, hi, HZ, hB⟩ := hrel
    by_cases hin : i < l.length
    · obtain ⟨b, off, rfl, hb, hc⟩ := HEL.out i hin
      have c0 := (hB.cell (p := ⟨b, off + (i * 2 + 0), none⟩) hb).trans (hc 0 (by decide))
      have c1 := (hB.cell (p := ⟨b, off + (i * 2 + 1), none⟩) hb).trans (hc 1 (by decide))
      change _ = some (Value.string l[i].1) at c0
      change _ = some (Value.string l[i].2) at c1
      rw [← Nat.add_assoc] at c0 c1
      rw [Nat.add_zero] at c0
      have hi0 : (0 : Int) ≤ (i : Int) := by omega
      have hi1 : (i : Int) < (l.length : Int) := by omega
      have HST : Hid ((decide (400 < l[i].1.size) || decide (400 < l[i].2.size) || longB (l.drop (i + 1))) = true) := by
        have h := HZ.out
        rw [List.drop_eq_getElem_cons hin] at h
        exact h
      clear hc HZ
      generalize l[i] = f at *
      obtain ⟨fa, fb⟩ := f
      simp only at c0 c1
      obtain ⟨wo, rfl⟩ : ∃ wo : World, wo = wr := ⟨_, rfl⟩
      have hsz := hB.size
      have HB := Lib.hid hB
      clear hB
      by_cases h1 : 400 < fa.size
      · have g1 : (400 : Int) < (fa.size : Int) := by omega
        go_wp2_with fail
        go_ret2
        exact ⟨rfl, HB.out.alloc hsz _⟩
      · have g1 : ¬ (400 : Int) < (fa.size : Int) := by omega
        by_cases h2 : 400 < fb.size
        · have g2 : (400 : Int) < (fb.size : Int) := by omega
          go_wp2_with fail
          go_ret2
          exact ⟨rfl, HB.out.alloc hsz _⟩
        · have g2 : ¬ (400 : Int) < (fb.size : Int) := by omega
          have HS2 : Hid (longB (l.drop (i + 1)) = true) := by
            have h := HST.out
            simp only [h1, h2, decide_false, Bool.false_or] at h
            exact h
          go_wp2_with fail
          go_roundw
          exact ⟨i + 1, by simp, by omega, HS2, HB.out.alloc hsz _⟩
          simp only [intOf]
          omega
    · obtain rfl : i = l.length := by omega
      exact absurd HZ.out (by rw [List.drop_length]; decide)
theorem addL_len (max : Int) (l : List Fld) (s : Int) (f : Fld) : (addL max l s f).1.length ≤ l.length + 1 := by
  unfold addL
  split
  · simp only [List.length_take]; omega
  · simp only [List.length_cons, List.length_take]; omega
/-- A block that is not the writer's stays. -/
theorem keepF {w w' : World} {gw q : Nat} {O O' : Option Nat} (hM : Mod (fun k => k = gw ∨ some k = O) w w') (hq : q < w.heap.size) (hg : q ≠ gw) (hO : O ≠ some q) (hO' : O' = O ∨ ∃ k, w.heap.size ≤ k ∧ O' = some k) :
    (∀ i, w'.cell? ⟨q, i, none⟩ = w.cell? ⟨q, i, none⟩) ∧ q < w'.heap.size ∧ O' ≠ some q := by
  have hb := hM.block q hq (by rintro (e | e); exact hg e; exact hO e.symm)
  refine ⟨fun i => World.cell?_of_block (a := ⟨q, i, none⟩) hb, Nat.lt_of_lt_of_le hq hM.size, ?_⟩
  rcases hO' with e | ⟨k, hk, e⟩
  · rw [e]; exact hO
  · rw [e]; intro e2; have := Option.some.inj e2; omega
/-- Within a round: the field's block F, and the state. -/
structure EF (w0 w : World) (g bo bi gw F : Nat) (max so si : Int) (Oo Oc Oi : Option Nat) (lo li : List Fld) (bad : Bool) (acc : List Int) (v : Value) (l : List Fld) (fa fb : ByteArray) : Prop where
  c0 : w.cell? ⟨F, 0, none⟩ = some (.string fa)
  c1 : w.cell? ⟨F, 1, none⟩ = some (.string fb)
  FW : F < w.heap.size
  FG : F ≠ gw ∧ F ≠ bo ∧ Oc ≠ some F
  st : ∃ O, O ≠ some F ∧ St w0 w g bo bi gw max so si Oo Oc Oi O lo li bad acc v l
section
variable {w0 w : World} {g bo bi gw F : Nat} {max so si : Int} {Oo Oc Oi : Option Nat} {lo li : List Fld} {bad : Bool} {acc : List Int} {v : Value} {l : List Fld} {fa fb : ByteArray}
theorem EF.num (h : EF w0 w g bo bi gw F max so si Oo Oc Oi lo li bad acc v l fa fb) (hl : acc.length ≤ 1099511627776) (n : Nat) (hn : n ≤ 2000000) :
    Calls Try.prog 22 #[.pointer (some ⟨gw, 0, none⟩), .int .i64 n, .int .i64 6, .int .i64 64] w fun e w' => e = .returned (.tuple #[]) ∧ EF w0 w' g bo bi gw F max so si Oo Oc Oi lo li bad (acc ++ putL n (6 : Nat) 64) v l fa fb := by
  rw [show ((6 : Nat) : Int) = 6 from rfl]
  obtain ⟨c0, c1, FW, ⟨G1, G2, G3⟩, O, hO, hS⟩ := h
  refine (wnum_any hS.wr (by have := hS.wr.lt; omega) hl n 6 64 ⟨by omega, by omega⟩ (by decide) (by decide) (by decide) (by decide)).mono ?_
  rintro e w3 ⟨rfl, O3, hO3, hW3, hM3⟩
  obtain ⟨kc, kl, kn⟩ := keepF hM3 FW G1 hO hO3
  exact ⟨rfl, (kc 0).trans c0, (kc 1).trans c1, kl, ⟨G1, G2, G3⟩, O3, kn, hS.wrote hW3 hO3 hM3⟩
theorem EF.text (h : EF w0 w g bo bi gw F max so si Oo Oc Oi lo li bad acc v l fa fb) (hl : acc.length ≤ 1099511627776) (s : ByteArray) (hs : s.size ≤ 400) :
    Calls Try.prog 23 #[.pointer (some ⟨gw, 0, none⟩), .string s] w fun e w' => e = .returned (.tuple #[]) ∧ EF w0 w' g bo bi gw F max so si Oo Oc Oi lo li bad (acc ++ textL s.data.toList) v l fa fb := by
  obtain ⟨c0, c1, FW, ⟨G1, G2, G3⟩, O, hO, hS⟩ := h
  refine (wtext_any hS.wr (by have := hS.wr.lt; omega) hl s hs).mono ?_
  rintro e w3 ⟨rfl, O3, hO3, hW3, hM3⟩
  obtain ⟨kc, kl, kn⟩ := keepF hM3 FW G1 hO hO3
  exact ⟨rfl, (kc 0).trans c0, (kc 1).trans c1, kl, ⟨G1, G2, G3⟩, O3, kn, hS.wrote hW3 hO3 hM3⟩
theorem EF.add (h : EF w0 w g bo bi gw F max so si Oo Oc Oi lo li bad acc v l fa fb) (hl : lo.length ≤ 1000000) (X : List Fld × Int × Bool) (hX : addL max lo so (fa, fb) = X) :
    Calls Try.prog 8 #[.pointer (some ⟨bo, 0, none⟩), .agg #[.string fa, .string fb]] w fun e w' => ∃ Oc', e = .returned (.bool X.2.2) ∧ EF w0 w' g bo bi gw F max X.2.1 si Oo Oc' Oi X.1 li bad acc v l fa fb := by
  obtain ⟨c0, c1, FW, ⟨G1, G2, G3⟩, O, hO, hS⟩ := h
  refine (add_own hS.c.out (fa, fb) hl Oc hS.c.oo).mono ?_
  rintro e w3 ⟨rfl, hT9, hM9, Oc9, hO9, hA9⟩
  rw [hX] at hT9 ⊢
  have kF : w3.heap[F]? = w.heap[F]? := hM9.block _ FW (by rintro (e | e); exact G2 e; exact G3 e.symm)
  refine ⟨Oc9, rfl, (World.cell?_of_block (a := ⟨F, 0, none⟩) kF).trans c0, (World.cell?_of_block (a := ⟨F, 1, none⟩) kF).trans c1, Nat.lt_of_lt_of_le FW hM9.size, ⟨G1, G2, ?_⟩, O, hO, hS.added hT9 hM9 hO9 hA9⟩
  rcases hO9 with e | ⟨k, hk, e⟩
  · rw [e]; exact G3
  · rw [e]; intro e2; have := Option.some.inj e2; omega
theorem EF.g0 (h : EF w0 w g bo bi gw F max so si Oo Oc Oi lo li bad acc v l fa fb) : w.cell? ⟨g, 0, none⟩ = some (.pointer (some ⟨bo, 0, none⟩)) := by
  obtain ⟨_, _, _, _, O, _, hS⟩ := h
  exact hS.c.c0
theorem EF.drew (h : EF w0 w g bo bi gw F max so si Oo Oc Oi lo li bad acc v l fa fb) : EF w0 w.drew g bo bi gw F max so si Oo Oc Oi lo li bad acc v l fa fb := by
  obtain ⟨c0, c1, FW, G, O, hO, hS⟩ := h
  exact ⟨c0, c1, FW, G, O, hO, hS.below (w' := w.drew) (Below.refl _ _).drew⟩
end
theorem encB_len1 (wh nm : Nat) (a b : List Int) (l : List Fld) (s : Int) (X : List Fld × Int × Bool) (h : X.1.length ≤ l.length + 1) : (if 0 < wh then (a, l, s) else (b, X.1, X.2.1)).2.1.length ≤ l.length + 1 := by
  by_cases hw : 0 < wh
  · rw [if_pos hw]; exact Nat.le_succ _
  · rw [if_neg hw]; exact h
theorem enc1_len1 (max : Int) (f : Fld) (l : List Fld) (s : Int) : (enc1 max f l s).2.1.length ≤ l.length + 1 := by
  have h := addL_len max l s f
  unfold enc1
  generalize addL max l s f = X at *
  exact encB_len1 _ 0 _ _ _ _ X h
theorem encB_len (wh nm : Nat) (fa fb : List UInt8) (l l' : List Fld) (s s' : Int) (h1 : (textL fa).length ≤ 466) (h2 : (textL fb).length ≤ 466) : (if 0 < wh then (putL wh (7 : Nat) 128, l, s) else ((putL nm (6 : Nat) 64 ++ if nm = 0 then textL fa else []) ++ textL fb, l', s')).1.length ≤ 1000 := by
  have hP : ∀ n b f : Int, (putL n b f).length ≤ 6 := putL_len
  by_cases hw : 0 < wh
  · rw [if_pos hw]
    have h := hP wh (7 : Nat) 128
    generalize putL wh (7 : Nat) 128 = A at *
    show A.length ≤ 1000
    omega
  · rw [if_neg hw]
    have h := hP nm (6 : Nat) 64
    generalize putL nm (6 : Nat) 64 = A at *
    show ((A ++ if nm = 0 then textL fa else []) ++ textL fb).length ≤ 1000
    rw [List.length_append, List.length_append]
    by_cases hn : nm = 0
    · rw [if_pos hn]; omega
    · rw [if_neg hn, List.length_nil]; omega
theorem enc1_len (max : Int) (f : Fld) (l : List Fld) (s : Int) (hf : f.1.size ≤ 400 ∧ f.2.size ≤ 400) : (enc1 max f l s).1.length ≤ 1000 :=
  encB_len _ _ _ _ _ _ _ _ (textL_len6 f.1 hf.1) (textL_len6 f.2 hf.2)
set_option maxRecDepth 100000 in
set_option maxHeartbeats 8000000 in
theorem henc_ok (v : Value) (l : List Fld) (w : World) (g bo bi : Nat) (max so si : Int) (Oo Oi : Option Nat) (lo li : List Fld) (bad : Bool) (hl : At encF w v l) (hC : IsCoder w g bo bi max Oo Oi lo li so si bad)
    (hv : l ≠ [] → ∀ k, v.ownBlock = some k → k < w.heap.size ∧ k ≠ bo ∧ some k ≠ Oo) (hf : fullB l = false) (hlong : longB l = false) (hlen : lo.length + l.length ≤ 1000000) :
    Calls Try.prog 11 #[.pointer (some ⟨g, 0, none⟩), v] w fun e w' => ∃ vr Oo', e = .returned (.tuple #[vr, .nilIface]) ∧ BytesL.Own w' w.heap.size vr (encL max l lo so).1 ∧ IsCoder w' g bo bi max Oo' Oi (encL max l lo so).2.1 li (encL max l lo so).2.2 si bad ∧ (Oo' = Oo ∨ ∃ k, w.heap.size ≤ k ∧ Oo' = some k) ∧ (∀ k, vr.ownBlock = some k → Oo' ≠ some k) ∧ Mod (fun k => k = bo ∨ some k = Oo) w w' := by
  have HF := Lib.hid (full_any v l w hl)
  rw [hf] at HF
  have HAT := Lib.hid hl
  have HV := Lib.hid hv
  have HC := Lib.hid hC
  have hgl := block_lt_of_cell hC.c0
  clear hv hC
  obtain ⟨a, cap, rfl, hcap, hcap2, _, hel⟩ := hl
  have HEL := Lib.hid hel
  have HLG := Lib.hid hlong
  clear hel hf hlong
  have hn : (l.length : Int) ≤ 9223372036854775807 := by omega
  go_enter Try.func11, Try.ntmps11
  go_upto_block 0 with (first
    | (go_at_call 21; refine HF.out.mono ?_; rintro e w2 ⟨rfl, hB2⟩; have HB2 := Lib.hid hB2; clear hB2)
    | fail)
  go_cut [7, 23] from 24 (fun _ _ wx => Hid (Below w.heap.size w wx))
  case first => as_aux_lemma =>
    go_wp2_with fail
    go_loopw [23] (fun iv wi => ∃ (i : Nat), iv = .int .i64 i ∧ i ≤ l.length ∧ Hid (longB (l.drop i) = false) ∧ Below w.heap.size w wi) (fun iv _ => l.length - (intOf iv).toNat)
    case atStart => exact ⟨0, rfl, by omega, HLG, HB2.out⟩
    case round =>
      obtain ⟨i, rfl, hi, HZ, hB⟩ := hrel
      by_cases hin : i < l.length
      · obtain ⟨b, off, rfl, hb, hc⟩ := HEL.out i hin
        have c0 := (hB.cell (p := ⟨b, off + (i * 2 + 0), none⟩) hb).trans (hc 0 (by decide))
        have c1 := (hB.cell (p := ⟨b, off + (i * 2 + 1), none⟩) hb).trans (hc 1 (by decide))
        change _ = some (Value.string l[i].1) at c0
        change _ = some (Value.string l[i].2) at c1
        rw [← Nat.add_assoc] at c0 c1
        rw [Nat.add_zero] at c0
        have hi0 : (0 : Int) ≤ (i : Int) := by omega
        have hi1 : (i : Int) < (l.length : Int) := by omega
        have HST : Hid ((decide (400 < l[i].1.size) || decide (400 < l[i].2.size) || longB (l.drop (i + 1))) = false) := by
          have h := HZ.out
          rw [List.drop_eq_getElem_cons hin] at h
          exact h
        clear hc HZ
        generalize l[i] = f at *
        obtain ⟨fa, fb⟩ := f
        simp only at c0 c1
        obtain ⟨wo, rfl⟩ : ∃ wo : World, wo = wr := ⟨_, rfl⟩
        have hsz := hB.size
        have HB := Lib.hid hB
        clear hB
        by_cases h1 : 400 < fa.size
        · have g1 : (400 : Int) < (fa.size : Int) := by omega
          exact absurd HST.out (by simp [h1])
        · have g1 : ¬ (400 : Int) < (fa.size : Int) := by omega
          by_cases h2 : 400 < fb.size
          · have g2 : (400 : Int) < (fb.size : Int) := by omega
            exact absurd HST.out (by simp [h2])
          · have g2 : ¬ (400 : Int) < (fb.size : Int) := by omega
            have HS2 : Hid (longB (l.drop (i + 1)) = false) := by
              have h := HST.out
              simp only [h1, h2, decide_false, Bool.false_or] at h
              exact h
            go_wp2_with fail
            go_roundw
            exact ⟨i + 1, by simp, by omega, HS2, HB.out.alloc hsz _⟩
            simp only [intOf]
            omega
      · obtain rfl : i = l.length := by omega
        have hi1 : ¬ ((l.length : Int) < (l.length : Int)) := by omega
        have HB := Lib.hid hB
        clear hB HZ
        go_wp2_with fail
        go_meet
        exact HB.out
  have hB := hcut.out
  clear hcut
  have c0 := (hB.cell (p := ⟨g, 0, none⟩) hgl).trans HC.out.c0
  have c3 := (hB.cell (p := ⟨g, 3, none⟩) hgl).trans HC.out.c3
  have HB := Lib.hid hB
  clear hB
  have hgw : g < wc.heap.size := Nat.lt_of_lt_of_le hgl HB.out.size
  have d0 := (cell_alloc wc (.cells #[.slice none 0 0] 61) g 0 hgw).trans c0
  have d3 := (cell_alloc wc (.cells #[.slice none 0 0] 61) g 3 hgw).trans c3
  have hW0 : Hid (IsWr (wc.alloc (.cells #[.slice none 0 0] 61)) wc.heap.size (wc.heap.size + 1) none []) := ⟨⟨.slice none 0 0, by simp, BytesL.Own.nil _ _, rfl⟩, by simp, Nat.lt_succ_self _⟩
  clear c0 c3
  have hB1 : Below w.heap.size w (wc.alloc (.cells #[.slice none 0 0] 61)) := HB.out.alloc HB.out.size _
  have HST0 : Hid (St w (wc.alloc (.cells #[.slice none 0 0] 61)) g bo bi wc.heap.size max so si Oo Oo Oi none lo li bad [] (.slice a l.length cap) l) := ⟨HC.out.old hB1, hW0.out, HAT.out.old hB1, Mod.ofBelow hB1 (fun k hk hge => by omega), HB.out.size, ⟨hgl, HC.out.out.lt, HC.out.inn.lt⟩, fun k hk => (HC.out.hi k hk).2.2, HV.out, .inl rfl, fun k hk => ⟨by have := (HC.out.ho k hk).2.2; have := HB.out.size; omega, by simp⟩, fun k hk => (HC.out.ho k hk).2.2⟩
  clear hB1 hW0
  go_wp2_with fail
  clear d0 d3 hgw
  generalize wc.alloc (.cells #[.slice none 0 0] 61) = W1 at *
  generalize wc.heap.size = gw at *
  go_loopw [85] (fun iv wi => ∃ (i : Nat) (acc : List Int) (lc : List Fld) (sc : Int) (O Oc : Option Nat), iv = .int .i64 i ∧ i ≤ l.length ∧ Hid (acc ++ (encL max (l.drop i) lc sc).1 = (encL max l lo so).1 ∧ (encL max (l.drop i) lc sc).2 = (encL max l lo so).2) ∧ Hid (lc.length ≤ lo.length + i ∧ acc.length ≤ 1000 * i) ∧ Hid (St w wi g bo bi gw max sc si Oo Oc Oi O lc li bad acc (.slice a l.length cap) l)) (fun iv _ => l.length - (intOf iv).toNat)
  case atStart => exact ⟨0, [], lo, so, none, Oo, rfl, by omega, ⟨rfl, rfl⟩, ⟨by omega, by simp⟩, HST0.out⟩
  case round =>
    obtain ⟨i, acc, lc, sc, O, Oc, rfl, hi, HEQ, HLE, HS⟩ := hrel
    by_cases hin : i < l.length
    · obtain ⟨a', cap', ea, -, -, -, hel2⟩ := id HS.out.at_
      simp only [Value.slice.injEq] at ea
      obtain ⟨rfl, -, rfl⟩ := ea
      obtain ⟨b, off, rfl, hb, hc⟩ := hel2 i hin
      have c0 : wr.cell? ⟨b, off + i * 2, none⟩ = some (.string l[i].1) := hc 0 (by decide)
      have c1 : wr.cell? ⟨b, off + i * 2 + 1, none⟩ = some (.string l[i].2) := hc 1 (by decide)
      have hi0 : (0 : Int) ≤ (i : Int) := by omega
      have hi2 : (i : Int) < (l.length : Int) := by omega
      clear hc hel2
      obtain ⟨f, hff⟩ : ∃ f, l[i] = f := ⟨_, rfl⟩
      rw [hff] at c0 c1
      obtain ⟨fa, fb⟩ := f
      have hfe := hff
      simp only at c0 c1
      obtain ⟨wo, rfl⟩ : ∃ wo : World, wo = wr := ⟨_, rfl⟩
      have hBa : Below wo.heap.size wo (wo.alloc (.cells #[.string fa, .string fb] 29)) := (Below.refl _ _).alloc (Nat.le_refl _) _
      have HS2 := Lib.hid (HS.out.below hBa)
      have e0 := HS2.out.c.c0
      have HQ : Hid (gw < wo.heap.size ∧ O ≠ some wo.heap.size ∧ bo < wo.heap.size ∧ Oc ≠ some wo.heap.size) := by
        obtain ⟨⟨u, a, b, hu⟩, -, -⟩ := id HS.out.wr
        refine ⟨HS.out.wr.lt, fun e => ?_, HS.out.c.out.lt, fun e => ?_⟩
        · have := (own_lt b wo.heap.size (hu.trans e)).2
          omega
        · have := (HS.out.c.ho _ e).2.2
          omega
      have p0 : (wo.alloc (.cells #[.string fa, .string fb] 29)).cell? ⟨wo.heap.size, 0, none⟩ = some (.string fa) := by simp
      have p1 : (wo.alloc (.cells #[.string fa, .string fb] 29)).cell? ⟨wo.heap.size, 1, none⟩ = some (.string fb) := by simp
      have hsa : wo.heap.size < (wo.alloc (.cells #[.string fa, .string fb] 29)).heap.size := by simp
      clear hBa
      have hst : encL max (l.drop i) lc sc = ((enc1 max (fa, fb) lc sc).1 ++ (encL max (l.drop (i + 1)) (enc1 max (fa, fb) lc sc).2.1 (enc1 max (fa, fb) lc sc).2.2).1, (encL max (l.drop (i + 1)) (enc1 max (fa, fb) lc sc).2.1 (enc1 max (fa, fb) lc sc).2.2).2) := by rw [List.drop_eq_getElem_cons hin, hfe]; rfl
      rw [hst] at HEQ
      have HSZ : Hid (fa.size ≤ 400 ∧ fb.size ≤ 400) := by
        have h := HLG.out
        unfold longB at h
        rw [List.any_eq_false] at h
        have h2 := h l[i] (List.getElem_mem hin)
        rw [hff] at h2
        simp at h2
        show _ ∧ _
        omega
      clear hst hfe hff
      have hfl := fst_le (sameF (fa, fb)) (allL lc)
      have hfl2 := fst_le (sameN (fa, fb)) (allL lc)
      have hal : (allL lc).length = 12 + lc.length := by unfold allL; rw [List.length_append]; rfl
      have HLC : Hid (lc.length ≤ 1000000) := by have := HLE.out.1; show _ ≤ _; omega
      have HWB : Hid (fst (sameF (fa, fb)) (allL lc) ≤ 2000000 ∧ fst (sameN (fa, fb)) (allL lc) ≤ 2000000) := by have := HLC.out; show _ ∧ _; omega
      have HENC : Hid (enc1 max (fa, fb) lc sc = if 0 < fst (sameF (fa, fb)) (allL lc) then (putL (fst (sameF (fa, fb)) (allL lc) : Nat) (7 : Nat) 128, lc, sc) else ((putL (fst (sameN (fa, fb)) (allL lc) : Nat) (6 : Nat) 64 ++ if fst (sameN (fa, fb)) (allL lc) = 0 then textL fa.data.toList else []) ++ textL fb.data.toList, (addL max lc sc (fa, fb)).1, (addL max lc sc (fa, fb)).2.1)) := rfl
      have HFI := Lib.hid (fun W (hT : IsTable W bo bo max lc sc) => find_any hT HLC.out (fa, fb))
      obtain ⟨X, hXX⟩ : ∃ X, addL max lc sc (fa, fb) = X := ⟨_, rfl⟩
      rw [hXX] at HENC
      have HXX := Lib.hid hXX
      clear hfl hfl2 hal hXX
      generalize fst (sameF (fa, fb)) (allL lc) = wh at *
      generalize fst (sameN (fa, fb)) (allL lc) = nm at *
      go_upto_block 5 with fail
      go_cut [15, 16, 17] from 86 to 118 (fun _ _ _ wx => Hid (∃ O Oc, St w wx g bo bi gw max (enc1 max (fa, fb) lc sc).2.2 si Oo Oc Oi O (enc1 max (fa, fb) lc sc).2.1 li bad (acc ++ (enc1 max (fa, fb) lc sc).1) (.slice (some ⟨b, off, none⟩) l.length cap) l))
      case first =>
        go_upto_region 25 with fail
        have hga : g < (wo.alloc (.cells #[.string fa, .string fb] 29)).heap.size := block_lt_of_cell e0
        generalize wo.alloc (.cells #[.string fa, .string fb] 29) = w1 at *
        go_cut [16, 17] from 86 to 118 (fun x y wx => x = .int .i64 wh ∧ y = .int .i64 nm ∧ (wx.cell? ⟨g, 0, none⟩ = some (.pointer (some ⟨bo, 0, none⟩)) ∧ wx.cell? ⟨wo.heap.size, 0, none⟩ = some (.string fa) ∧ wx.cell? ⟨wo.heap.size, 1, none⟩ = some (.string fb)) ∧ Hid (wo.heap.size < wx.heap.size) ∧ Hid (St w wx g bo bi gw max sc si Oo Oc Oi O lc li bad acc (.slice (some ⟨b, off, none⟩) l.length cap) l))
        case first => as_aux_lemma =>
          have hS1 : w1.drew.cell? ⟨g, 0, none⟩ = some (.pointer (some ⟨bo, 0, none⟩)) ∧ w1.drew.cell? ⟨wo.heap.size, 0, none⟩ = some (.string fa) ∧ w1.drew.cell? ⟨wo.heap.size, 1, none⟩ = some (.string fb) := ⟨e0, p0, p1⟩
          have HS2d := Lib.hid (HS2.out.below (w' := w1.drew) (Below.refl _ _).drew)
          clear e0 p0 p1
          go_region_held3 (fun w' => w'.cell? ⟨g, 0, none⟩ = some (.pointer (some ⟨bo, 0, none⟩)) ∧ w'.cell? ⟨wo.heap.size, 0, none⟩ = some (.string fa) ∧ w'.cell? ⟨wo.heap.size, 1, none⟩ = some (.string fb)) (first | exact hS1 | exact hS2)
            (first
            | (go_at_call 9; refine (HFI.out _ HS2d.out.c.out).mono ?_; rintro e w2 ⟨rfl, hB2⟩; have hS2 : w2.cell? ⟨g, 0, none⟩ = some (.pointer (some ⟨bo, 0, none⟩)) ∧ w2.cell? ⟨wo.heap.size, 0, none⟩ = some (.string fa) ∧ w2.cell? ⟨wo.heap.size, 1, none⟩ = some (.string fb) := ⟨(hB2.cell (p := ⟨g, 0, none⟩) hga).trans hS1.1, (hB2.cell (p := ⟨wo.heap.size, 0, none⟩) hsa).trans hS1.2.1, (hB2.cell (p := ⟨wo.heap.size, 1, none⟩) hsa).trans hS1.2.2⟩))
          have HS3 := Lib.hid (HS2d.out.below hB2)
          have hsz2 := Lib.hid hB2.size
          clear hB2 hS1
          go_wp2_with fail
          go_meet
          exact ⟨rfl, rfl, hS2, Nat.lt_of_lt_of_le hsa hsz2.out, HS3.out⟩
        clear e0 p0 p1 HS2 hsa hga HFI
        obtain ⟨rfl, rfl, hS2, HSX, HS3⟩ := hcut
        obtain ⟨w2, rfl⟩ : ∃ W : World, W = wc := ⟨_, rfl⟩
        have hq2 := HSX.out
        by_cases hw : 0 < wh
        · as_aux_lemma =>
          have hx := HENC.out
          rw [if_pos hw] at hx
          have HX := Lib.hid hx
          clear hx HENC
          have hw' : (0 : Int) < (wh : Int) := by omega
          go_wp2_with (first
            | (go_at_call 22; refine (wnum_any HS3.out.wr (by have := HS3.out.wr.lt; omega) (by have := HLE.out.2; omega) _ _ _ ⟨by omega, by have := HWB.out.1; omega⟩ (by decide) (by decide) (by decide) (by decide)).mono ?_; rintro e w3 ⟨rfl, O3, hO3, hW3, hM3⟩; have HS4 := Lib.hid (HS3.out.wrote hW3 hO3 hM3); clear hO3 hW3 hM3)
            | fail)
          go_meet
          rw [HX.out]
          exact ⟨O3, Oc, HS4.out⟩
        · have hx := HENC.out
          rw [if_neg hw] at hx
          have HX := Lib.hid hx
          clear hx HENC
          have hw' : ¬ (0 : Int) < (wh : Int) := by omega
          have HPL : Hid (∀ n b f : Int, (putL n b f).length ≤ 6) := putL_len
          have HTL : Hid ((textL fa.data.toList).length ≤ 466) := textL_len6 fa HSZ.out.1
          have HTL2 : Hid ((textL fb.data.toList).length ≤ 466) := textL_len6 fb HSZ.out.2
          have HE1 : Hid (EF w w2 g bo bi gw wo.heap.size max sc si Oo Oc Oi lc li bad (acc) (.slice (some ⟨b, off, none⟩) l.length cap) l fa fb) := ⟨hS2.2.1, hS2.2.2, HSX.out, ⟨by have := HQ.out.1; omega, by have := HQ.out.2.2.1; omega, HQ.out.2.2.2⟩, O, HQ.out.2.1, HS3.out⟩
          clear hS2 HS3 HS HSX hq2
          go_upto_region 28 with fail
          go_cut [] from 86 to 118 (fun wx => Hid (EF w wx g bo bi gw wo.heap.size max sc si Oo Oc Oi lc li bad (acc ++ putL (nm : Nat) (6 : Nat) 64) (.slice (some ⟨b, off, none⟩) l.length cap) l fa fb))
          case first => as_aux_lemma =>
            go_wp2_with (first
              | (go_at_call 22; have HCT := HE1.out.num (by have := HLE.out.2; omega) nm HWB.out.2; (with_reducible refine HCT.mono ?_); clear HCT; rintro e w3 ⟨rfl, hE3⟩; have HE3 := Lib.hid hE3; clear hE3)
              | fail)
            go_meet
            exact HE3.out
          obtain ⟨w3, rfl⟩ : ∃ W : World, W = wc := ⟨_, rfl⟩
          have HE3 := hcut
          clear hcut HE1
          go_upto_if 105 with fail
          go_cut [] from 86 to 118 (fun wx => Hid (EF w wx g bo bi gw wo.heap.size max sc si Oo Oc Oi lc li bad (acc ++ putL (nm : Nat) (6 : Nat) 64 ++ (if nm = 0 then textL fa.data.toList else [])) (.slice (some ⟨b, off, none⟩) l.length cap) l fa fb))
          case first => as_aux_lemma =>
            have r0 := HE3.out.c0
            by_cases hnm : nm = 0
            · subst hnm
              have b0 : (decide (((0 : Nat) : Int) = 0)) = true := by decide
              go_wp2_with (first
                | (go_at_call 23; have HCT := HE3.out.text (by have := HLE.out.2; have := HPL.out ((0 : Nat) : Int) (6 : Nat) 64; rw [List.length_append]; omega) fa HSZ.out.1; (with_reducible refine HCT.mono ?_); clear HCT; rintro e w4 ⟨rfl, hE4⟩; have HE4 := Lib.hid hE4; clear hE4)
                | fail)
              go_meet
              rw [if_pos trivial]
              exact HE4.out
            · have b0 : (decide ((nm : Int) = 0)) = false := by rw [decide_eq_false_iff_not]; omega
              have b1 : ¬ (nm : Int) = 0 := by omega
              go_wp2_with fail
              go_meet
              rw [if_neg hnm, List.append_nil]
              exact HE3.out
          obtain ⟨w4, rfl⟩ : ∃ W : World, W = wc := ⟨_, rfl⟩
          have HE4 := hcut
          clear hcut HE3
          obtain ⟨A, hA⟩ : ∃ A, (if nm = 0 then textL fa.data.toList else []) = A := ⟨_, rfl⟩
          have HAA : Hid (A.length ≤ 466) := by
            have := HTL.out
            show A.length ≤ 466
            rw [← hA]
            split
            · omega
            · simp
          rw [hA] at HE4 HX
          clear hA
          go_upto_region 31 with fail
          go_cut [] from 86 to 118 (fun wx => Hid (EF w wx g bo bi gw wo.heap.size max sc si Oo Oc Oi lc li bad (acc ++ putL (nm : Nat) (6 : Nat) 64 ++ A ++ textL fb.data.toList) (.slice (some ⟨b, off, none⟩) l.length cap) l fa fb))
          case first => as_aux_lemma =>
            have r1 := HE4.out.c1
            go_wp2_with (first
              | (go_at_call 23; have HCT := HE4.out.text (by have := HLE.out.2; have := HPL.out nm (6 : Nat) 64; have := HAA.out; simp only [List.length_append]; omega) fb HSZ.out.2; (with_reducible refine HCT.mono ?_); clear HCT; rintro e w5 ⟨rfl, hE5⟩; have HE5 := Lib.hid hE5; clear hE5)
              | fail)
            go_meet
            exact HE5.out
          obtain ⟨w5, rfl⟩ : ∃ W : World, W = wc := ⟨_, rfl⟩
          have HE5 := hcut
          clear hcut HE4
          as_aux_lemma =>
            go_upto_region 32 with fail
            have HEd := Lib.hid HE5.out.drew
            have hS1 : w5.drew.cell? ⟨g, 0, none⟩ = some (.pointer (some ⟨bo, 0, none⟩)) ∧ w5.drew.cell? ⟨wo.heap.size, 0, none⟩ = some (.string fa) ∧ w5.drew.cell? ⟨wo.heap.size, 1, none⟩ = some (.string fb) := ⟨HEd.out.g0, HEd.out.c0, HEd.out.c1⟩
            go_region_held3 (fun w' => w'.cell? ⟨g, 0, none⟩ = some (.pointer (some ⟨bo, 0, none⟩)) ∧ w'.cell? ⟨wo.heap.size, 0, none⟩ = some (.string fa) ∧ w'.cell? ⟨wo.heap.size, 1, none⟩ = some (.string fb)) (first | exact hS1 | exact hS2)
              (first
              | (go_at_call 8; have HCT := HEd.out.add HLC.out X HXX.out; (with_reducible refine HCT.mono ?_); clear HCT; rintro e w9 ⟨Oc9, rfl, hE9⟩; have HE9 := Lib.hid hE9; have hS2 : w9.cell? ⟨g, 0, none⟩ = some (.pointer (some ⟨bo, 0, none⟩)) ∧ w9.cell? ⟨wo.heap.size, 0, none⟩ = some (.string fa) ∧ w9.cell? ⟨wo.heap.size, 1, none⟩ = some (.string fb) := ⟨HE9.out.g0, HE9.out.c0, HE9.out.c1⟩; clear hE9))
            clear hS1
            go_wp2_with fail
            go_meet
            obtain ⟨-, -, -, -, O9, -, hS9⟩ := HE9.out
            rw [HX.out]
            refine ⟨O9, Oc9, ?_⟩
            dsimp only
            rw [← List.append_assoc, ← List.append_assoc]
            exact hS9
      clear e0 p0 p1 HS2 hsa HFI HENC HWB
      obtain ⟨w9, rfl⟩ : ∃ W : World, W = wc := ⟨_, rfl⟩
      have HS9 := hcut
      clear hcut
      go_wp2_with fail
      go_roundw
      case rel =>
        obtain ⟨O9, Oc9, hS9⟩ := HS9.out
        refine ⟨i + 1, acc ++ (enc1 max (fa, fb) lc sc).1, (enc1 max (fa, fb) lc sc).2.1, (enc1 max (fa, fb) lc sc).2.2, O9, Oc9, by simp, by omega, ⟨?_, HEQ.out.2⟩, ⟨?_, ?_⟩, hS9⟩
        · rw [List.append_assoc]; exact HEQ.out.1
        · have := enc1_len1 max (fa, fb) lc sc; have := HLE.out.1; omega
        · have := enc1_len max (fa, fb) lc sc HSZ.out; rw [List.length_append]; have := HLE.out.2; omega
      case measure => simp only [intOf]; omega
    · as_aux_lemma =>
      obtain rfl : i = l.length := by omega
      have hi1 : ¬ ((l.length : Int) < (l.length : Int)) := by omega
      obtain ⟨⟨vw, k0, kO, kv⟩, -, -⟩ := id HS.out.wr
      obtain ⟨aw, cw, rfl, -⟩ := kO.slice
      have KO := Lib.hid kO
      have KV := Lib.hid kv
      clear kO kv
      go_wp2_with fail
      go_ret2
      have hq := HEQ.out
      rw [List.drop_length] at hq
      simp only [encL, List.append_nil] at hq
      obtain ⟨q1, q2⟩ := hq
      refine ⟨_, rfl, ?_, Oc, ?_, HS.out.oc, fun k hk e => (HS.out.ocw k e).2 (KV.out.symm.trans hk), HS.out.m⟩
      · rw [← q1]; exact KO.out.mono (by have := HS.out.gw0; omega)
      · rw [← q2]; exact HS.out.c
end Go.Proofs.Ytbbhinhledkceaa.HeadF
