/-
  The walk of the law HeadTwice: for all fields it returns true and writes nothing that was there.
  Conditions: none.
-/
import Derived.Test.YtbbhinhledkceaaFieldsArg
import Derived.Test.YtbbhinhledkceaaHeadTwo
import Derived.Test.YtbbhinhledkceaaSameF
import Derived.Lib.Hide
namespace Go.Proofs.Ytbbhinhledkceaa.WalkHeadTwice
open Go.RowKit RowsK FieldRows TableC ModL HeadF HeadC CodeC WireC
set_option linter.unusedVariables false
set_option linter.unusedSimpArgs false

set_option maxRecDepth 100000 in
set_option maxHeartbeats 8000000 in
theorem walk (v1 : Value) (fs : List Fld) (w : World) (w0 : Args.FieldsAt w v1 fs) :
    Calls Try.prog 4 #[v1] w fun e w' => e = .returned (.bool true) ∧ Below w.heap.size w w' := by
  obtain ⟨hat, -⟩ := w0
  obtain ⟨a1, cap1, rfl, hcap1, hcap2, hnil1, hel⟩ := id hat
  have hv0 : fs ≠ [] → ∀ k, (Value.slice a1 fs.length cap1).ownBlock = some k → k < w.heap.size := by
    intro hne k hk
    obtain ⟨b, off, rfl, hb, -⟩ := hel 0 (List.length_pos_iff.2 hne)
    obtain rfl : b = k := by simpa [Value.ownBlock] using hk
    exact hb
  have HAT := Lib.hid hat
  have HV0 := Lib.hid hv0
  have HN := Lib.hid (fun W => hnew_ok 4096 W (by decide))
  clear hel hnil1 hat hv0
  go_enter Try.func4, Try.ntmps4
  go_wp2_with (first
    | (go_at_call 10; refine (HN.out w).mono ?_; rintro e w1 ⟨gA, boA, biA, OA, PA, rfl, hA, a1, a2, a3, a4, a5, hB1⟩; have HA1 := Lib.hid hA; have HAG := Lib.hid (And.intro a1 (And.intro a2 (And.intro a3 (And.intro a4 a5)))); have HB1 := Lib.hid hB1; clear hA hB1 a1 a2 a3 a4 a5)
    | (go_at_call 10; refine (HN.out w1).mono ?_; rintro e w2 ⟨gB, boB, biB, OB, PB, rfl, hB, b1, b2, b3, b4, b5, hB2⟩; have HB2 := Lib.hid hB2; have HBB := Lib.hid hB; have HBG := Lib.hid (And.intro b1 (And.intro b2 (And.intro b3 (And.intro b4 b5)))); clear hB hB2 b1 b2 b3 b4 b5)
    | fail)
  have hlt1 : ∀ k, Blk gA boA biA OA PA k → k < w1.heap.size := fun k hk => blk_lt HA1.out hk
  have hge2 : ∀ k, Blk gB boB biB OB PB k → w1.heap.size ≤ k := by
    rintro k (rfl | rfl | rfl | e | e)
    · exact HBG.out.1
    · exact HBG.out.2.1
    · exact HBG.out.2.2.1
    · exact HBG.out.2.2.2.1 k e.symm
    · exact HBG.out.2.2.2.2 k e.symm
  have hge1 : ∀ k, Blk gA boA biA OA PA k → w.heap.size ≤ k := by
    rintro k (rfl | rfl | rfl | e | e)
    · exact HAG.out.1
    · exact HAG.out.2.1
    · exact HAG.out.2.2.1
    · exact HAG.out.2.2.2.1 k e.symm
    · exact HAG.out.2.2.2.2 k e.symm
  have hB12 : Below w.heap.size w w2 := HB1.out.trans (HB2.out.mono HB1.out.size)
  have HT2 : Hid (TW w w2 gA boA biA gB boB biB OA PA OB PB [] [] 0 0 (.slice a1 fs.length cap1) fs) :=
    ⟨HA1.out.old HB2.out, HBB.out, fun k h1 h2 => by have := hlt1 k h1; have := hge2 k h2; omega, hge1, fun k hk => by have := hge2 k hk; have := HB1.out.size; omega, hB12, HAT.out.old hB12, HV0.out⟩
  have hBa : Below w2.heap.size w2 (w2.alloc (.cells #[.string ⟨#[58, 109, 101, 116, 104, 111, 100]⟩, .string ⟨#[71, 69, 84]⟩] 29)) := (Below.refl _ _).alloc (Nat.le_refl _) _
  have HTa := Lib.hid (HT2.out.below hBa)
  have HAg := Lib.hid (Own.lit (E := encF) (b := w2.heap.size) (e := 29) w2 #[.string ⟨#[58, 109, 101, 116, 104, 111, 100]⟩, .string ⟨#[71, 69, 84]⟩] [(⟨#[58, 109, 101, 116, 104, 111, 100]⟩, ⟨#[71, 69, 84]⟩)] (Nat.le_refl _) (by simp) rfl).at_
  have hb2 : ∀ k, k < w2.heap.size → k ≠ w2.heap.size := fun k hk => by omega
  have hEn := HTa.out.enc (.slice (some ⟨w2.heap.size, 0, none⟩) 1 1) [(⟨#[58, 109, 101, 116, 104, 111, 100]⟩, ⟨#[71, 69, 84]⟩)] HAg.out (by
    intro _ k hk
    obtain rfl : w2.heap.size = k := by simpa [Value.ownBlock] using hk
    refine ⟨by simp, fun e => ?_, fun e => ?_⟩
    · exact hb2 boA (blk_lt HT2.out.A (.inr (.inl rfl))) e.symm
    · exact hb2 w2.heap.size (blk_lt HT2.out.A (.inr (.inr (.inr (.inl e))))) rfl) full_get long_get (by simp) _ _ _ enc_get
  have HEn := Lib.hid hEn
  clear hEn hlt1 hge2 hge1 hB12 hBa hb2 HA1 HAG HB1 HB2 HBB HBG HN HAg
  generalize w2.alloc (.cells #[.string ⟨#[58, 109, 101, 116, 104, 111, 100]⟩, .string ⟨#[71, 69, 84]⟩] 29) = wa at *
  refine HEn.out.mono ?_
  rintro e w3 ⟨af, nf, cf, OA3, rfl, hn, hx, hxb, hT3, hM3⟩
  obtain rfl : nf = 1 := hn
  obtain ⟨af', cf', e9, -, -, -, hel⟩ := hx.open
  simp only [Value.slice.injEq] at e9
  obtain ⟨rfl, -, rfl⟩ := e9
  obtain ⟨bf, off, rfl, hbf, hc0⟩ := hel 0 (by simp)
  replace hc0 : w3.cell? ⟨bf, off, none⟩ = some (.int .u8 129) := hc0
  have hkb := hxb bf rfl
  have HT3 := Lib.hid hT3
  have hDe := hT3.dec (.slice (some ⟨bf, off, none⟩) 1 cf) [(⟨#[58, 109, 101, 116, 104, 111, 100]⟩, ⟨#[71, 69, 84]⟩)] _ _ _ enc_get hx (fun k hk => by
    obtain rfl : bf = k := by simpa [Value.ownBlock] using hk
    exact ⟨hkb.2.1, fun e => by have := blk_lt HTa.out.B e; omega⟩) full_get long_get (by simp)
  have HDe := Lib.hid hDe
  have HKB : Hid (wa.heap.size ≤ bf ∧ bf < w3.heap.size) := ⟨hkb.1, hkb.2.1⟩
  clear hDe hx hxb hT3 hM3 hel hkb hbf HEn HT2
  go_wp2_with (first
    | (go_at_call 12; refine HDe.out.mono ?_; rintro e w4 ⟨ao, co, PB4, rfl, hA4, hb4, hT4, -, hM4⟩; have hc4 : w4.cell? ⟨bf, off, none⟩ = some (.int .u8 129) := (World.cell?_of_block (a := ⟨bf, off, none⟩) (hM4.block bf HKB.out.2 (by have h0 := HKB.out.1; have hB := fun k hk => blk_lt HTa.out.B (k := k) hk; rintro (e | e | e); (have := hB bf (.inl e); omega); (have := hB bf (.inr (.inr (.inl e))); omega); (have := hB bf (.inr (.inr (.inr (.inr e)))); omega)))).trans hc0; have HT4 := Lib.hid hT4; clear hA4 hb4 hT4 hM4 hc0)
    | fail)
  clear hc4 HTa HDe
  have hvA : fs ≠ [] → ∀ k, (Value.slice a1 fs.length cap1).ownBlock = some k → k < w4.heap.size ∧ k ≠ boA ∧ some k ≠ OA3 := by
    intro hne k hk
    have h0 := HV0.out hne k hk
    have := HT4.out.m.size
    exact ⟨by omega, fun e => by have := HT4.out.ba k (.inr (.inl e)); omega, fun e => by have := HT4.out.ba k (.inr (.inr (.inr (.inl e)))); omega⟩
  by_cases hf : fullB fs = true
  · have HE := Lib.hid (henc_full _ _ w4 gA HT4.out.at_ hf)
    clear hvA
    go_wp2_with (first
      | (go_at_call 11; refine HE.out.mono ?_; rintro e w5 ⟨rfl, hB5⟩; have HB5 := Lib.hid hB5; clear hB5)
      | fail)
    go_ret
    exact ⟨rfl, HT4.out.m.trans (HB5.out.mono HT4.out.m.size)⟩
  · have hf2 : fullB fs = false := by simpa using hf
    by_cases hlo : longB fs = true
    · have HE := Lib.hid (henc_long _ _ w4 gA HT4.out.at_ hf2 hlo)
      clear hvA
      go_wp2_with (first
        | (go_at_call 11; refine HE.out.mono ?_; rintro e w5 ⟨rfl, hB5⟩; have HB5 := Lib.hid hB5; clear hB5)
        | fail)
      go_ret
      exact ⟨rfl, HT4.out.m.trans (HB5.out.mono HT4.out.m.size)⟩
    · have hlo2 : longB fs = false := by simpa using hlo
      obtain ⟨E, E2, lc, sc, hE, hE2, hlen2, hlc, hfl, hw⟩ := twice_plain hf2 hlo2
      have HE := Lib.hid (HT4.out.enc _ fs HT4.out.at_ hvA hf2 hlo2 (by simp; omega) E lc sc hE)
      have HFF := Lib.hid hf2
      have HLF := Lib.hid hlo2
      have HEE := Lib.hid hE
      have HEE2 := Lib.hid hE2
      have HL2 := Lib.hid hlen2
      have HLC := Lib.hid hlc
      clear hf hf2 hlo hlo2 hE hE2 hlen2 hlc hvA
      have HWT := Lib.hid (fun W (hW : At encF W (.slice a1 fs.length cap1) fs) => weight_any _ _ W hW)
      generalize wgt fs 0 = W0 at *
      have hw' : ¬ (2000 : Int) < W0 := by omega
      have hTP := SameC.sameF_any fs
      have HTP := Lib.hid hTP
      clear hTP
      refine HE.out.mono ?_
      rintro e w5 ⟨ax, nx, cx, OA5, rfl, hnx, hx5, hbx5, hT5, hM5⟩
      have HS5 := Lib.hid hM5.size
      clear hM5
      have HX5 := Lib.hid hx5
      have HBX := Lib.hid hbx5
      have HT5 := Lib.hid hT5
      clear hnx hx5 hbx5 hT5 HE
      go_wp2_with (first
        | (go_at_call 13; refine (HWT.out _ HT5.out.at_).mono ?_; rintro e w6 ⟨rfl, hB6⟩; have HB6 := Lib.hid hB6; clear hB6)
        | fail)
      have hT6 := HT5.out.below HB6.out
      have HE6 := Lib.hid (hT6.enc _ fs hT6.at_ (by
        intro hne k hk
        have h0 := HV0.out hne k hk
        have := hT6.m.size
        exact ⟨by omega, fun e => by have := hT6.ba k (.inr (.inl e)); omega, fun e => by have := hT6.ba k (.inr (.inr (.inr (.inl e)))); omega⟩) HFF.out HLF.out (by have := HLC.out; omega) E2 lc sc HEE2.out)
      have HX6 := Lib.hid (HX5.out.below HB6.out)
      clear hT6 HX5
      refine HE6.out.mono ?_
      rintro e w7 ⟨ay, ny, cy, OA7, rfl, hny, hy7, hby7, hT7, hM7⟩
      have hx7 : BA.BytesAt w7 (.slice ax nx cx) E := bytesAt_of_block HX6.out (fun k hk => hM7.block k (by have := (HBX.out k hk).2.1; have := HB6.out.size; omega) (by
        have h1 := HBX.out k hk
        rintro (e | e)
        · have := blk_lt HT4.out.A (k := boA) (.inr (.inl rfl)); omega
        · exact h1.2.2 e.symm)) hM7.size
      have hlt4 : ∀ k, Blk gB boB biB OB PB4 k → k < w4.heap.size := fun k hk => blk_lt HT4.out.B hk
      have HD7 := Lib.hid (hT7.dec _ fs E lc sc HEE.out hx7 (fun k hk => ⟨by have := (HBX.out k hk).2.1; have := HB6.out.size; have := hM7.size; omega, fun e => by have := hlt4 k e; have := (HBX.out k hk).1; omega⟩) HFF.out HLF.out (by simp; omega))
      have HY7 := Lib.hid hy7
      have HBY := Lib.hid hby7
      have HT7 := Lib.hid hT7
      have HNY := Lib.hid hny
      have H45 : Hid (w4.heap.size ≤ w6.heap.size) := by
        have h5 := HB6.out.size
        have h6 := HS5.out
        show _ ≤ _
        omega
      have HLT4 := Lib.hid hlt4
      clear hx7 hlt4 hy7 hby7 hT7 hM7 hny HE6 HX6
      go_wp2_with fail
      refine HD7.out.mono ?_
      rintro e w8 ⟨ap, cp, PB8, rfl, hA8, hb8, hT8, hnew8, hM8⟩
      have hy8 : BA.BytesAt w8 (.slice ay ny cy) E2 := bytesAt_of_block HY7.out (fun k hk => hM8.block k (HBY.out k hk).2.1 (by
        have h1 := (HBY.out k hk).1
        have h2 := H45.out
        rintro (e | e | e)
        · have := HLT4.out k (.inl e); omega
        · have := HLT4.out k (.inr (.inr (.inl e))); omega
        · have := HLT4.out k (.inr (.inr (.inr (.inr e)))); omega)) hM8.size
      have HD8 := Lib.hid (hT8.dec _ fs E2 lc sc HEE2.out hy8 (fun k hk => ⟨by have := (HBY.out k hk).2.1; have := hM8.size; omega, fun e => by
        have h1 := HBY.out k hk
        have h2 := H45.out
        rcases hnew8 k e with q | q
        · have := HLT4.out k q; omega
        · omega⟩) HFF.out HLF.out (by have := HLC.out; omega))
      have HA8 := Lib.hid hA8
      have HB8 := Lib.hid hb8
      have HT8 := Lib.hid hT8
      have HL7 : Hid (∀ k, Blk gB boB biB OB PB4 k → k < w7.heap.size) := fun k hk => blk_lt HT7.out.B hk
      clear hy8 hA8 hb8 hT8 hnew8 hM8 HD7
      go_wp2_with fail
      refine HD8.out.mono ?_
      rintro e w9 ⟨aq, cq, PB9, rfl, hA9, hb9, hT9, -, hM9⟩
      have hp9 : At encF w9 (.slice ap fs.length cp) fs := HA8.out.of_block (fun k hk => hM9.block k (HB8.out k hk).2.1 (by
        have h1 := HB8.out k hk
        rintro (e | e | e)
        · have := HL7.out k (.inl e); omega
        · have := HL7.out k (.inr (.inr (.inl e))); omega
        · exact h1.2.2 e.symm)) hM9.size
      have HP9 := Lib.hid hp9
      have HQ9 := Lib.hid hA9
      have HT9 := Lib.hid hT9
      obtain rfl : ny = E2.length := HNY.out
      obtain ⟨n2, hn2⟩ : ∃ n, E2.length = n := ⟨_, rfl⟩
      have hny2 : n2 = fs.length := by rw [← hn2]; exact HL2.out
      rw [hn2]
      subst hny2
      clear hp9 hA9 hb9 hT9 hM9 HD8 hn2 HNY HY7 HBY
      have hwr : IntKind.i64.wrap (2 * (fs.length : Int)) = 2 * (fs.length : Int) := IntWalk.i64_in _ (by omega)
      have hle : (fs.length : Int) ≤ 2 * (fs.length : Int) := by omega
      go_wp2_with fail
      refine (HTP.out _ _ w9 HP9.out HT9.out.at_).mono ?_
      rintro e wx ⟨rfl, n10, rfl⟩
      have HQ10 := Lib.hid (HTP.out _ _ (w9.drewN n10) (HQ9.out.old (SameC.below_drewN (Below.refl _ _) n10)) (HT9.out.at_.old (SameC.below_drewN (Below.refl _ _) n10)))
      have HBE : Hid (Below w.heap.size w (w9.drewN n10)) := SameC.below_drewN HT9.out.m n10
      generalize w9.drewN n10 = w10 at *
      go_wp2_with fail
      refine HQ10.out.mono ?_
      rintro e wy ⟨rfl, n11, rfl⟩
      have HBF : Hid (Below w.heap.size w (w10.drewN n11)) := SameC.below_drewN HBE.out n11
      generalize w10.drewN n11 = w11 at *
      go_wp2_with fail
      go_ret
      exact ⟨rfl, HBF.out⟩
end Go.Proofs.Ytbbhinhledkceaa.WalkHeadTwice
