/-
  head.Text over this seat's translation, exactly.
  Conditions: the bounds that stand in each.
-/
import Derived.Test.YtbbhinhledkceaaHeadS
import Derived.Test.YtbbhinhledkceaaConvApp
import Derived.Test.YtbbhinhledkceaaSlicesB
namespace Go.Proofs.Ytbbhinhledkceaa.HeadC
open Go.RowKit CodeC WireC BA
set_option linter.unusedVariables false
set_option linter.unusedSimpArgs false

theorem text_long (s : ByteArray) (w : World) (h : 400 < s.size) : Calls Try.prog 29 #[.string s] w fun e w' => e = .returned (.tuple #[.slice none 0 0, .iface 49 (.int .i64 4)]) ∧ w = w' := by
  have h' : (400 : Int) < (s.size : Int) := by omega
  go_enter Try.func29, Try.ntmps29
  go_wp2
  go_ret2
  exact ⟨rfl, rfl⟩
set_option maxRecDepth 100000 in
set_option maxHeartbeats 4000000 in
theorem text_ok (s : ByteArray) (w : World) (h : s.size ≤ 400) : Calls Try.prog 29 #[.string s] w fun e w' => ∃ v, e = .returned (.tuple #[v, .nilIface]) ∧ BytesL.Own w' w.heap.size v (textL s.data.toList) ∧ Below w.heap.size w w' := by
  have h' : ¬ (400 : Int) < (s.size : Int) := by omega
  have hsl : s.data.toList.length = s.size := by rw [Array.length_toList]; rfl
  have HEN := Lib.hid (encode_exact s w (by omega))
  have hcl := code_len8 s.data.toList
  have hbl := bitsB_len s.data.toList
  have hbn := bitsN_bd s.data.toList
  rw [List.length_append] at hcl
  have hfl : (fillB (bitsB s.data.toList).length).length ≤ 7 := by unfold fillB; rw [List.length_replicate]; omega
  have hclb : (codeL s.data.toList).length ≤ 460 := by omega
  have HTL : Hid (textL s.data.toList = if s.data.toList.length ≤ (codeL s.data.toList).length then putL (s.data.toList.length : Nat) (7 : Nat) 0 ++ intsU s.data.toList else putL ((codeL s.data.toList).length : Nat) (7 : Nat) 128 ++ codeL s.data.toList) := rfl
  obtain ⟨T, hT⟩ : ∃ T, textL s.data.toList = T := ⟨_, rfl⟩
  rw [hT] at HTL ⊢
  obtain ⟨C, hC⟩ : ∃ C, codeL s.data.toList = C := ⟨_, rfl⟩
  rw [hC] at HTL HEN hclb
  obtain ⟨cn, hcn⟩ : ∃ cn, C.length = cn := ⟨_, rfl⟩
  rw [hcn] at hclb
  have HCN := Lib.hid hcn
  have HSL := Lib.hid hsl
  clear hcl hbl hbn hfl hT hC hcn
  by_cases hc : s.size ≤ cn
  · have hT2 : T = putL (s.size : Nat) 7 0 ++ intsOf s.data.toList := by rw [HTL.out, HCN.out, HSL.out, if_pos hc]; rfl
    have HT2 := Lib.hid hT2
    have hc' : (s.size : Int) ≤ (cn : Int) := by omega
    have HPL : Hid ((putL (s.size : Nat) 7 0).length ≤ 6) := putL_len _ _ _
    clear hT2 hsl HTL
    go_enter Try.func29, Try.ntmps29
    go_wp2_with (first
      | (go_at_call 34; (with_reducible refine HEN.out.mono ?_); rintro e w1 ⟨v1, rfl, hO, hB⟩; obtain ⟨a1, c1, rfl, -⟩ := hO.slice; rw [HCN.out]; have HB1 := Lib.hid hB; obtain ⟨cap3, w4, hrun, hB4, hCv⟩ := convd_new s w1 (by omega); have HB4 := Lib.hid (hB.trans (hB4.mono hB.size)); have HCV := Lib.hid hCv; have HX := Lib.hid hCv.at; clear hO hB hB4 hCv)
      | (go_at_call 28; (refine (put_any (s.size : Int) 7 0 _ (by omega) (by decide) (by decide) (fun _ _ => by decide)).mono ?_); rintro e w5 (⟨-, -, -, -, a5, c5, rfl, hO, hB⟩ | ⟨hbad, -, -⟩); rotate_left; exact absurd hbad (by omega); have HO5 := Lib.hid (hO.mono HB4.out.size); have HB5 := Lib.hid (HB4.out.trans (hB.mono HB4.out.size)); have HX5 := Lib.hid (HX.out.below hB); clear hO hB)
      | (at_builtin; refine SlicesB.wpList_append_bytes rfl _ _ rfl w.heap.size _ _ rfl HO5.out _ _ rfl (by have h := HX5.out; rw [intsOf_len, HSL.out] at h; exact h) (by rw [intsOf_len, HSL.out]; have := HPL.out; omega) HB5.out.size ?_; intro v6 w6 hO6 hB6 hg6 hh6; have HO6 := Lib.hid hO6; have HB6 := Lib.hid (HB5.out.trans hB6); obtain ⟨a6, c6, rfl, -⟩ := hO6.slice; clear hO6 hB6 hg6 hh6))
    go_ret2
    rw [HT2.out]
    exact ⟨_, rfl, by have h := HO6.out; rw [List.length_append] at h; exact h, HB6.out⟩
  · have hT2 : T = putL (cn : Nat) 7 128 ++ C := by rw [HTL.out, HCN.out, HSL.out, if_neg hc]; rfl
    have HT2 := Lib.hid hT2
    have hc' : ¬ (s.size : Int) ≤ (cn : Int) := by omega
    have HPL : Hid ((putL (cn : Nat) 7 128).length ≤ 6) := putL_len _ _ _
    clear hT2 hsl HTL
    go_enter Try.func29, Try.ntmps29
    go_wp2_with (first
      | (go_at_call 34; (with_reducible refine HEN.out.mono ?_); rintro e w1 ⟨v1, rfl, hO, hB⟩; obtain ⟨a1, c1, rfl, -⟩ := hO.slice; have hX := BytesAt.of_own hO; rw [HCN.out] at hX ⊢; have HX := Lib.hid hX; have HB1 := Lib.hid hB; clear hO hB hX)
      | (go_at_call 28; (refine (put_any (cn : Int) 7 128 _ (by omega) (by decide) (by decide) (fun _ _ => by decide)).mono ?_); rintro e w5 (⟨-, -, -, -, a5, c5, rfl, hO, hB⟩ | ⟨hbad, -, -⟩); rotate_left; exact absurd hbad (by omega); have HO5 := Lib.hid (hO.mono HB1.out.size); have HB5 := Lib.hid (HB1.out.trans (hB.mono HB1.out.size)); have HX5 := Lib.hid (HX.out.below hB); clear hO hB)
      | (at_builtin; refine SlicesB.wpList_append_bytes rfl _ _ rfl w.heap.size _ _ rfl HO5.out _ _ rfl HX5.out (by rw [HCN.out]; have := HPL.out; omega) HB5.out.size ?_; intro v6 w6 hO6 hB6 hg6 hh6; have HO6 := Lib.hid hO6; have HB6 := Lib.hid (HB5.out.trans hB6); obtain ⟨a6, c6, rfl, -⟩ := hO6.slice; clear hO6 hB6 hg6 hh6))
    go_ret2
    rw [HT2.out]
    exact ⟨_, rfl, by have h := HO6.out; rw [List.length_append] at h; exact h, HB6.out⟩
end Go.Proofs.Ytbbhinhledkceaa.HeadC
