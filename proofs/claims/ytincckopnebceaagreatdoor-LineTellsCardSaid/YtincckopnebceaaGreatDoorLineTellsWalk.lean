/-
  The walk of the law LineTells: for all requests, replies, sizes and texts it returns true and writes nothing that was there.
  Conditions: errors.errorType, math/bits.deBruijn64tab and strconv's powers of ten start as the program's text lays them.
-/
import Derived.Test.YtincckopnebceaaGreatDoorArgs
import Derived.Test.YtincckopnebceaaGreatDoorMsgArg
import Derived.Test.YtincckopnebceaaGreatDoorTellLines
import Derived.Test.YtincckopnebceaaGreatDoorTold
namespace Go.Proofs.YtincckopnebceaaGreatDoor.WalkLineTells
open Go.RowKit RowsK LineC LineM BA ToldC HexC
set_option linter.unusedVariables false
set_option linter.unusedSimpArgs false

theorem conv_nil (W : World) : (convert 23 9 (.slice none 0 0)).run Tryz.prog W = .ok (.string ⟨#[]⟩) W :=
  conv_back (l := []) ⟨none, 0, rfl, by simp, by simp, fun _ => rfl, by simp [BytesL.valB]⟩ (by simp)
theorem bd_app {a b : List Int} (ha : ∀ z ∈ a, 0 ≤ z ∧ z ≤ 255) (hb : ∀ z ∈ b, 0 ≤ z ∧ z ≤ 255) : ∀ z ∈ a ++ b, 0 ≤ z ∧ z ≤ 255 := fun z hz => by
  rcases List.mem_append.1 hz with h | h
  · exact ha z h
  · exact hb z h
theorem EN_bd {l : List Int} (h : ∀ z ∈ l, 0 ≤ z ∧ z ≤ 255) (sz : Nat) (hl : l.length ≤ 8000) : ∀ z ∈ EN l sz, 0 ≤ z ∧ z ≤ 255 := by
  unfold EN ChunkC.encAll
  refine bd_app (fun z hz => ?_) (by decide)
  obtain ⟨x, hx, hz⟩ := List.mem_flatMap.1 hz
  unfold ChunkI.upto at hx
  obtain ⟨k, _, rfl⟩ := List.mem_map.1 hx
  unfold ChunkC.enc1 at hz
  simp only [List.mem_append] at hz
  rcases hz with ((hz | hz) | hz) | hz
  · exact ChunkR.hexL_bd _ z hz
  · exact (show ∀ z ∈ ([13, 10] : List Int), 0 ≤ z ∧ z ≤ 255 by decide) z hz
  · exact h z (List.mem_of_mem_drop (List.mem_of_mem_take hz))
  · exact (show ∀ z ∈ ([13, 10] : List Int), 0 ≤ z ∧ z ≤ 255 by decide) z hz
set_option maxRecDepth 100000 in
set_option maxHeartbeats 16000000 in
theorem walk (r : Rq) (vf vb : Value) (a : Rp) (vf2 vb2 : Value) (size : Int) (s : ByteArray) (w : World) (hr : RqAt w vf vb r) (ha : RpAt w vf2 vb2 a) (hsz : Args.I64 size) (hs : s.size ≤ maxLen) (hT : Tab16 w) (hp : Pow10 w) (hg : w.cell? ⟨0, 0, none⟩ = some (.iface 135 (.agg #[.pointer (some ⟨7, 31, none⟩)]))) :
    Calls Tryz.prog 3 #[rqV r vf vb, rpV a vf2 vb2, .int .i64 size, .string s] w fun e w' => e = .returned (.bool true) ∧ Below w.heap.size w w' := by
  have HGc : ∀ W', Below w.heap.size w W' → W'.cell? ⟨0, 0, none⟩ = some (.iface 135 (.agg #[.pointer (some ⟨7, 31, none⟩)])) := fun W' hB => (hB.cell (p := ⟨0, 0, none⟩) (block_lt_of_cell hg)).trans hg
  have HEK : ∀ k : Int, Hid (∀ W, Below w.heap.size w W → Calls Tryz.prog 8 #[.iface 51 (.int .i64 k), .int .i64 k] W fun e W' => e = .returned (.bool true) ∧ Below W.heap.size W W') := fun k => (fun W hB => (error_any (.err k) k W (HGc W hB)).mono fun e w' h => ⟨by rw [h.1]; simp, h.2⟩)
  have HEN : Hid (∀ W, Below w.heap.size w W → Calls Tryz.prog 8 #[.nilIface, .int .i64 0] W fun e W' => e = .returned (.bool true) ∧ Below W.heap.size W W') := (fun W hB => (error_any .nil 0 W (HGc W hB)).mono fun e w' h => ⟨by rw [h.1]; simp, h.2⟩)
  have HTK := Lib.hid (fun (W : World) (_ : Below w.heap.size w W) => token_any s W)
  have HRT := Lib.hid (fun (W : World) (_ : Below w.heap.size w W) => rtoken_any s hs W)
  have HPL := Lib.hid (fun (W : World) (_ : Below w.heap.size w W) => plain_any s W)
  have HRP := Lib.hid (fun (W : World) (_ : Below w.heap.size w W) => rplain_any s hs W)
  have HRA := Lib.hid (fun (W : World) (hW : Below w.heap.size w W) => rask_any r vf vb W (hr.old hW))
  have HRE := Lib.hid (fun (W : World) (hW : Below w.heap.size w W) => rtell_any a vf2 vb2 size W (ha.old hW))
  have hbb := hr.bs.2
  have hbb2 := ha.bs.2
  have cvn := conv_nil
  generalize tokL s.data.toList = bt at *
  generalize plainL s.data.toList = bp at *
  have HS0 := Lib.hid (HeldQ.new w #[.string r.method, .string r.path, .string r.host, vf, vb] 25)
  have HR0 := Lib.hid (HeldQ.new (w.alloc (.cells #[.string r.method, .string r.path, .string r.host, vf, vb] 25)) #[.int .i64 a.code, vf2, vb2] 27)
  have HS : Hid (HeldQ w ((w.alloc (.cells #[.string r.method, .string r.path, .string r.host, vf, vb] 25)).alloc (.cells #[.int .i64 a.code, vf2, vb2] 27)) #[.string r.method, .string r.path, .string r.host, vf, vb]) := HS0.out.step ((Below.refl _ _).alloc (Nat.le_refl _) _)
  have HR : Hid (HeldQ (w.alloc (.cells #[.string r.method, .string r.path, .string r.host, vf, vb] 25)) ((w.alloc (.cells #[.string r.method, .string r.path, .string r.host, vf, vb] 25)).alloc (.cells #[.int .i64 a.code, vf2, vb2] 27)) #[.int .i64 a.code, vf2, vb2]) := HR0.out
  clear HS0 HR0
  obtain ⟨vfa, vfn, vfc, hvf⟩ : ∃ x n c, vf = .slice x n c := by obtain ⟨x, c, h, _⟩ := hr.fs.1; exact ⟨_, _, _, h⟩
  obtain ⟨vba, vbn, vbc, hvb⟩ : ∃ x n c, vb = .slice x n c := by obtain ⟨x, c, h, _⟩ := hr.bs.1.open; exact ⟨_, _, _, h⟩
  obtain ⟨v2a, v2n, v2c, hv2⟩ : ∃ x n c, vf2 = .slice x n c := by obtain ⟨x, c, h, _⟩ := ha.fs.1; exact ⟨_, _, _, h⟩
  obtain ⟨v3a, v3n, v3c, hv3⟩ : ∃ x n c, vb2 = .slice x n c := by obtain ⟨x, c, h, _⟩ := ha.bs.1.open; exact ⟨_, _, _, h⟩
  by_cases h0 : askE r = 0
  · by_cases h1 : tellE a size = 0
    · have HAL := Lib.hid (fun (W : World) (hW : Below w.heap.size w W) => rask_lines r vf vb W (hr.fs.1.old hW) (hr.bs.1.below hW) h0)
      have HAK := Lib.hid (fun (W : World) (hW : Below w.heap.size w W) => ask_ok r vf vb W (hr.fs.1.old hW) (hr.bs.1.below hW) h0 (hp.old hW))
      have BV1 : Hid (∀ z ∈ askBytes r, 0 ≤ z ∧ z ≤ 255) := (bd_app (intsOf_bd _) hbb : ∀ z ∈ askBytes r, 0 ≤ z ∧ z ≤ 255)
      rw [h0] at HRA
      have HE1 := HEN
      generalize askBytes r = L1 at *
      obtain ⟨sn, rfl⟩ : ∃ n : Nat, size = n := ⟨size.toNat, by have := (tell_right h1).2.2.2; omega⟩
      have HTL := Lib.hid (fun (W : World) (hW : Below w.heap.size w W) => rtell_lines a vf2 vb2 sn W (ha.fs.1.old hW) (ha.bs.1.below hW) h1)
      have HTO := Lib.hid (fun (W : World) (hW : Below w.heap.size w W) => tell_ok a vf2 vb2 sn W (ha.fs.1.old hW) (ha.bs.1.below hW) h1 (hp.old hW) (hT.below hW hT.2))
      have BV3 : Hid (∀ z ∈ tellBytes a sn, 0 ≤ z ∧ z ≤ 255) := (by
        unfold tellBytes
        split
        · exact bd_app (intsOf_bd _) hbb2
        · exact bd_app (intsOf_bd _) (EN_bd hbb2 _ (tell_right h1).2.1) : ∀ z ∈ tellBytes a sn, 0 ≤ z ∧ z ≤ 255)
      rw [h1] at HRE
      have HE2 := HEN
      generalize tellBytes a sn = L3 at *
      clear hr ha h0 h1 hbb hbb2 hg HGc hT hp hsz HEK HEN
      unfold rqV rpV at *
      subst hvf hvb hv2 hv3
      have g0 := HS.out.cell 0 (by simp)
      have g1 := HS.out.cell 1 (by simp)
      have g2 := HS.out.cell 2 (by simp)
      have g3 := HS.out.cell 3 (by simp)
      have g4 := HS.out.cell 4 (by simp)
      have k0 := HR.out.cell 0 (by simp)
      have k1 := HR.out.cell 1 (by simp)
      have k2 := HR.out.cell 2 (by simp)
      simp at g0 g1 g2 g3 g4 k0 k1 k2
      have tok1 : True := trivial
      go_enter Tryz.func3, Tryz.ntmps3
      go_upto_region 9 with (first
        | (go_at_call 5; (with_reducible refine (HRA.out _ HS.out.bel).mono ?_); rintro e w1 ⟨rfl, hB⟩; replace HS := Lib.hid (HS.out.step hB); replace HR := Lib.hid (HR.out.step hB); clear hB; replace g0 := HS.out.cell 0 (by simp); simp at g0; replace g1 := HS.out.cell 1 (by simp); simp at g1; replace g2 := HS.out.cell 2 (by simp); simp at g2; replace g3 := HS.out.cell 3 (by simp); simp at g3; replace g4 := HS.out.cell 4 (by simp); simp at g4; replace k0 := HR.out.cell 0 (by simp); simp at k0; replace k1 := HR.out.cell 1 (by simp); simp at k1; replace k2 := HR.out.cell 2 (by simp); simp at k2)
        | (go_at_call 6; (with_reducible refine (HAL.out _ HS.out.bel).mono ?_); rintro e w1 ⟨v1, rfl, hv1, hB⟩; obtain ⟨y1, z1, rfl, _⟩ := hv1.open; have HV1 := Lib.hid hv1; clear hv1; replace HS := Lib.hid (HS.out.step hB); replace HR := Lib.hid (HR.out.step hB); clear hB; replace g0 := HS.out.cell 0 (by simp); simp at g0; replace g1 := HS.out.cell 1 (by simp); simp at g1; replace g2 := HS.out.cell 2 (by simp); simp at g2; replace g3 := HS.out.cell 3 (by simp); simp at g3; replace g4 := HS.out.cell 4 (by simp); simp at g4; replace k0 := HR.out.cell 0 (by simp); simp at k0; replace k1 := HR.out.cell 1 (by simp); simp at k1; replace k2 := HR.out.cell 2 (by simp); simp at k2)
        | (go_at_call 7; (with_reducible refine (HAK.out _ HS.out.bel).mono ?_); rintro e w1 ⟨v2, rfl, hv2, hB⟩; obtain ⟨y2, z2, rfl, _⟩ := hv2.open; have HV2 := Lib.hid hv2; clear hv2; replace HS := Lib.hid (HS.out.step hB); replace HR := Lib.hid (HR.out.step hB); replace HV1 := Lib.hid (HV1.out.below hB); clear hB; replace g0 := HS.out.cell 0 (by simp); simp at g0; replace g1 := HS.out.cell 1 (by simp); simp at g1; replace g2 := HS.out.cell 2 (by simp); simp at g2; replace g3 := HS.out.cell 3 (by simp); simp at g3; replace g4 := HS.out.cell 4 (by simp); simp at g4; replace k0 := HR.out.cell 0 (by simp); simp at k0; replace k1 := HR.out.cell 1 (by simp); simp at k1; replace k2 := HR.out.cell 2 (by simp); simp at k2)
        | (go_at_call 8; have _t := tok1; (with_reducible refine (HE1.out _ HS.out.bel).mono ?_); rintro e w1 ⟨rfl, hB⟩; clear tok1; replace HS := Lib.hid (HS.out.step hB); replace HR := Lib.hid (HR.out.step hB); replace HV1 := Lib.hid (HV1.out.below hB); replace HV2 := Lib.hid (HV2.out.below hB); clear hB; replace g0 := HS.out.cell 0 (by simp); simp at g0; replace g1 := HS.out.cell 1 (by simp); simp at g1; replace g2 := HS.out.cell 2 (by simp); simp at g2; replace g3 := HS.out.cell 3 (by simp); simp at g3; replace g4 := HS.out.cell 4 (by simp); simp at g4; replace k0 := HR.out.cell 0 (by simp); simp at k0; replace k1 := HR.out.cell 1 (by simp); simp at k1; replace k2 := HR.out.cell 2 (by simp); simp at k2; have cV1 := conv_back HV1.out BV1.out; have cV2 := conv_back HV2.out BV1.out))
      go_wp2_with (first
        | (go_at_call 9; (with_reducible refine (HRE.out _ HS.out.bel).mono ?_); rintro e w1 ⟨rfl, hB⟩; replace HS := Lib.hid (HS.out.step hB); replace HR := Lib.hid (HR.out.step hB); clear hB; replace g0 := HS.out.cell 0 (by simp); simp at g0; replace g1 := HS.out.cell 1 (by simp); simp at g1; replace g2 := HS.out.cell 2 (by simp); simp at g2; replace g3 := HS.out.cell 3 (by simp); simp at g3; replace g4 := HS.out.cell 4 (by simp); simp at g4; replace k0 := HR.out.cell 0 (by simp); simp at k0; replace k1 := HR.out.cell 1 (by simp); simp at k1; replace k2 := HR.out.cell 2 (by simp); simp at k2)
        | (go_at_call 10; (with_reducible refine (HTL.out _ HS.out.bel).mono ?_); rintro e w1 ⟨v3, rfl, hv3, hB⟩; obtain ⟨y3, z3, rfl, _⟩ := hv3.open; have HV3 := Lib.hid hv3; clear hv3; replace HS := Lib.hid (HS.out.step hB); replace HR := Lib.hid (HR.out.step hB); clear hB; replace g0 := HS.out.cell 0 (by simp); simp at g0; replace g1 := HS.out.cell 1 (by simp); simp at g1; replace g2 := HS.out.cell 2 (by simp); simp at g2; replace g3 := HS.out.cell 3 (by simp); simp at g3; replace g4 := HS.out.cell 4 (by simp); simp at g4; replace k0 := HR.out.cell 0 (by simp); simp at k0; replace k1 := HR.out.cell 1 (by simp); simp at k1; replace k2 := HR.out.cell 2 (by simp); simp at k2)
        | (go_at_call 11; (with_reducible refine (HTO.out _ HS.out.bel).mono ?_); rintro e w1 ⟨v4, rfl, hv4, hB⟩; obtain ⟨y4, z4, rfl, _⟩ := hv4.open; have HV4 := Lib.hid hv4; clear hv4; replace HS := Lib.hid (HS.out.step hB); replace HR := Lib.hid (HR.out.step hB); replace HV3 := Lib.hid (HV3.out.below hB); clear hB; replace g0 := HS.out.cell 0 (by simp); simp at g0; replace g1 := HS.out.cell 1 (by simp); simp at g1; replace g2 := HS.out.cell 2 (by simp); simp at g2; replace g3 := HS.out.cell 3 (by simp); simp at g3; replace g4 := HS.out.cell 4 (by simp); simp at g4; replace k0 := HR.out.cell 0 (by simp); simp at k0; replace k1 := HR.out.cell 1 (by simp); simp at k1; replace k2 := HR.out.cell 2 (by simp); simp at k2)
        | (go_at_call 8; (with_reducible refine (HE2.out _ HS.out.bel).mono ?_); rintro e w1 ⟨rfl, hB⟩; replace HS := Lib.hid (HS.out.step hB); replace HR := Lib.hid (HR.out.step hB); replace HV3 := Lib.hid (HV3.out.below hB); replace HV4 := Lib.hid (HV4.out.below hB); clear hB; replace g0 := HS.out.cell 0 (by simp); simp at g0; replace g1 := HS.out.cell 1 (by simp); simp at g1; replace g2 := HS.out.cell 2 (by simp); simp at g2; replace g3 := HS.out.cell 3 (by simp); simp at g3; replace g4 := HS.out.cell 4 (by simp); simp at g4; replace k0 := HR.out.cell 0 (by simp); simp at k0; replace k1 := HR.out.cell 1 (by simp); simp at k1; replace k2 := HR.out.cell 2 (by simp); simp at k2; have cV3 := conv_back HV3.out BV3.out; have cV4 := conv_back HV4.out BV3.out)
        | (go_at_call 12; (with_reducible refine (HTK.out _ HS.out.bel).mono ?_); rintro e w1 ⟨rfl, hB⟩; replace HS := Lib.hid (HS.out.step hB); replace HR := Lib.hid (HR.out.step hB); clear hB; replace g0 := HS.out.cell 0 (by simp); simp at g0; replace g1 := HS.out.cell 1 (by simp); simp at g1; replace g2 := HS.out.cell 2 (by simp); simp at g2; replace g3 := HS.out.cell 3 (by simp); simp at g3; replace g4 := HS.out.cell 4 (by simp); simp at g4; replace k0 := HR.out.cell 0 (by simp); simp at k0; replace k1 := HR.out.cell 1 (by simp); simp at k1; replace k2 := HR.out.cell 2 (by simp); simp at k2)
        | (go_at_call 14; (with_reducible refine (HPL.out _ HS.out.bel).mono ?_); rintro e w1 ⟨rfl, hB⟩; replace HS := Lib.hid (HS.out.step hB); replace HR := Lib.hid (HR.out.step hB); clear hB; replace g0 := HS.out.cell 0 (by simp); simp at g0; replace g1 := HS.out.cell 1 (by simp); simp at g1; replace g2 := HS.out.cell 2 (by simp); simp at g2; replace g3 := HS.out.cell 3 (by simp); simp at g3; replace g4 := HS.out.cell 4 (by simp); simp at g4; replace k0 := HR.out.cell 0 (by simp); simp at k0; replace k1 := HR.out.cell 1 (by simp); simp at k1; replace k2 := HR.out.cell 2 (by simp); simp at k2)
        | (go_at_call 13; (with_reducible refine (HRT.out _ HS.out.bel).mono ?_); rintro e w1 ⟨rfl, rfl⟩)
        | (go_at_call 15; (with_reducible refine (HRP.out _ HS.out.bel).mono ?_); rintro e w1 ⟨rfl, rfl⟩))
      go_ret
      exact ⟨by simp, HS.out.bel⟩
    · have HAL := Lib.hid (fun (W : World) (hW : Below w.heap.size w W) => rask_lines r vf vb W (hr.fs.1.old hW) (hr.bs.1.below hW) h0)
      have HAK := Lib.hid (fun (W : World) (hW : Below w.heap.size w W) => ask_ok r vf vb W (hr.fs.1.old hW) (hr.bs.1.below hW) h0 (hp.old hW))
      have BV1 : Hid (∀ z ∈ askBytes r, 0 ≤ z ∧ z ≤ 255) := (bd_app (intsOf_bd _) hbb : ∀ z ∈ askBytes r, 0 ≤ z ∧ z ≤ 255)
      rw [h0] at HRA
      have HE1 := HEN
      generalize askBytes r = L1 at *
      have HTO := Lib.hid (fun (W : World) (hW : Below w.heap.size w W) => tell_bad a vf2 vb2 size W (ha.fs.1.old hW) (ha.bs.1.below hW) h1)
      have HE2 := HEK (tellE a size)
      have e1 : (tellE a size == 0) = false := beq_eq_false_iff_ne.2 h1
      generalize tellE a size = q2 at *
      clear hr ha h0 h1 hbb hbb2 hg HGc hT hp hsz HEK HEN
      unfold rqV rpV at *
      subst hvf hvb hv2 hv3
      have g0 := HS.out.cell 0 (by simp)
      have g1 := HS.out.cell 1 (by simp)
      have g2 := HS.out.cell 2 (by simp)
      have g3 := HS.out.cell 3 (by simp)
      have g4 := HS.out.cell 4 (by simp)
      have k0 := HR.out.cell 0 (by simp)
      have k1 := HR.out.cell 1 (by simp)
      have k2 := HR.out.cell 2 (by simp)
      simp at g0 g1 g2 g3 g4 k0 k1 k2
      have tok1 : True := trivial
      go_enter Tryz.func3, Tryz.ntmps3
      go_upto_region 9 with (first
        | (go_at_call 5; (with_reducible refine (HRA.out _ HS.out.bel).mono ?_); rintro e w1 ⟨rfl, hB⟩; replace HS := Lib.hid (HS.out.step hB); replace HR := Lib.hid (HR.out.step hB); clear hB; replace g0 := HS.out.cell 0 (by simp); simp at g0; replace g1 := HS.out.cell 1 (by simp); simp at g1; replace g2 := HS.out.cell 2 (by simp); simp at g2; replace g3 := HS.out.cell 3 (by simp); simp at g3; replace g4 := HS.out.cell 4 (by simp); simp at g4; replace k0 := HR.out.cell 0 (by simp); simp at k0; replace k1 := HR.out.cell 1 (by simp); simp at k1; replace k2 := HR.out.cell 2 (by simp); simp at k2)
        | (go_at_call 6; (with_reducible refine (HAL.out _ HS.out.bel).mono ?_); rintro e w1 ⟨v1, rfl, hv1, hB⟩; obtain ⟨y1, z1, rfl, _⟩ := hv1.open; have HV1 := Lib.hid hv1; clear hv1; replace HS := Lib.hid (HS.out.step hB); replace HR := Lib.hid (HR.out.step hB); clear hB; replace g0 := HS.out.cell 0 (by simp); simp at g0; replace g1 := HS.out.cell 1 (by simp); simp at g1; replace g2 := HS.out.cell 2 (by simp); simp at g2; replace g3 := HS.out.cell 3 (by simp); simp at g3; replace g4 := HS.out.cell 4 (by simp); simp at g4; replace k0 := HR.out.cell 0 (by simp); simp at k0; replace k1 := HR.out.cell 1 (by simp); simp at k1; replace k2 := HR.out.cell 2 (by simp); simp at k2)
        | (go_at_call 7; (with_reducible refine (HAK.out _ HS.out.bel).mono ?_); rintro e w1 ⟨v2, rfl, hv2, hB⟩; obtain ⟨y2, z2, rfl, _⟩ := hv2.open; have HV2 := Lib.hid hv2; clear hv2; replace HS := Lib.hid (HS.out.step hB); replace HR := Lib.hid (HR.out.step hB); replace HV1 := Lib.hid (HV1.out.below hB); clear hB; replace g0 := HS.out.cell 0 (by simp); simp at g0; replace g1 := HS.out.cell 1 (by simp); simp at g1; replace g2 := HS.out.cell 2 (by simp); simp at g2; replace g3 := HS.out.cell 3 (by simp); simp at g3; replace g4 := HS.out.cell 4 (by simp); simp at g4; replace k0 := HR.out.cell 0 (by simp); simp at k0; replace k1 := HR.out.cell 1 (by simp); simp at k1; replace k2 := HR.out.cell 2 (by simp); simp at k2)
        | (go_at_call 8; have _t := tok1; (with_reducible refine (HE1.out _ HS.out.bel).mono ?_); rintro e w1 ⟨rfl, hB⟩; clear tok1; replace HS := Lib.hid (HS.out.step hB); replace HR := Lib.hid (HR.out.step hB); replace HV1 := Lib.hid (HV1.out.below hB); replace HV2 := Lib.hid (HV2.out.below hB); clear hB; replace g0 := HS.out.cell 0 (by simp); simp at g0; replace g1 := HS.out.cell 1 (by simp); simp at g1; replace g2 := HS.out.cell 2 (by simp); simp at g2; replace g3 := HS.out.cell 3 (by simp); simp at g3; replace g4 := HS.out.cell 4 (by simp); simp at g4; replace k0 := HR.out.cell 0 (by simp); simp at k0; replace k1 := HR.out.cell 1 (by simp); simp at k1; replace k2 := HR.out.cell 2 (by simp); simp at k2; have cV1 := conv_back HV1.out BV1.out; have cV2 := conv_back HV2.out BV1.out))
      go_wp2_with (first
        | (go_at_call 9; (with_reducible refine (HRE.out _ HS.out.bel).mono ?_); rintro e w1 ⟨rfl, hB⟩; replace HS := Lib.hid (HS.out.step hB); replace HR := Lib.hid (HR.out.step hB); clear hB; replace g0 := HS.out.cell 0 (by simp); simp at g0; replace g1 := HS.out.cell 1 (by simp); simp at g1; replace g2 := HS.out.cell 2 (by simp); simp at g2; replace g3 := HS.out.cell 3 (by simp); simp at g3; replace g4 := HS.out.cell 4 (by simp); simp at g4; replace k0 := HR.out.cell 0 (by simp); simp at k0; replace k1 := HR.out.cell 1 (by simp); simp at k1; replace k2 := HR.out.cell 2 (by simp); simp at k2)
        | (go_at_call 11; (with_reducible refine (HTO.out _ HS.out.bel).mono ?_); rintro e w1 ⟨rfl, hB⟩; replace HS := Lib.hid (HS.out.step hB); replace HR := Lib.hid (HR.out.step hB); clear hB; replace g0 := HS.out.cell 0 (by simp); simp at g0; replace g1 := HS.out.cell 1 (by simp); simp at g1; replace g2 := HS.out.cell 2 (by simp); simp at g2; replace g3 := HS.out.cell 3 (by simp); simp at g3; replace g4 := HS.out.cell 4 (by simp); simp at g4; replace k0 := HR.out.cell 0 (by simp); simp at k0; replace k1 := HR.out.cell 1 (by simp); simp at k1; replace k2 := HR.out.cell 2 (by simp); simp at k2)
        | (go_at_call 8; (with_reducible refine (HE2.out _ HS.out.bel).mono ?_); rintro e w1 ⟨rfl, hB⟩; replace HS := Lib.hid (HS.out.step hB); replace HR := Lib.hid (HR.out.step hB); clear hB; replace g0 := HS.out.cell 0 (by simp); simp at g0; replace g1 := HS.out.cell 1 (by simp); simp at g1; replace g2 := HS.out.cell 2 (by simp); simp at g2; replace g3 := HS.out.cell 3 (by simp); simp at g3; replace g4 := HS.out.cell 4 (by simp); simp at g4; replace k0 := HR.out.cell 0 (by simp); simp at k0; replace k1 := HR.out.cell 1 (by simp); simp at k1; replace k2 := HR.out.cell 2 (by simp); simp at k2)
        | (go_at_call 12; (with_reducible refine (HTK.out _ HS.out.bel).mono ?_); rintro e w1 ⟨rfl, hB⟩; replace HS := Lib.hid (HS.out.step hB); replace HR := Lib.hid (HR.out.step hB); clear hB; replace g0 := HS.out.cell 0 (by simp); simp at g0; replace g1 := HS.out.cell 1 (by simp); simp at g1; replace g2 := HS.out.cell 2 (by simp); simp at g2; replace g3 := HS.out.cell 3 (by simp); simp at g3; replace g4 := HS.out.cell 4 (by simp); simp at g4; replace k0 := HR.out.cell 0 (by simp); simp at k0; replace k1 := HR.out.cell 1 (by simp); simp at k1; replace k2 := HR.out.cell 2 (by simp); simp at k2)
        | (go_at_call 14; (with_reducible refine (HPL.out _ HS.out.bel).mono ?_); rintro e w1 ⟨rfl, hB⟩; replace HS := Lib.hid (HS.out.step hB); replace HR := Lib.hid (HR.out.step hB); clear hB; replace g0 := HS.out.cell 0 (by simp); simp at g0; replace g1 := HS.out.cell 1 (by simp); simp at g1; replace g2 := HS.out.cell 2 (by simp); simp at g2; replace g3 := HS.out.cell 3 (by simp); simp at g3; replace g4 := HS.out.cell 4 (by simp); simp at g4; replace k0 := HR.out.cell 0 (by simp); simp at k0; replace k1 := HR.out.cell 1 (by simp); simp at k1; replace k2 := HR.out.cell 2 (by simp); simp at k2)
        | (go_at_call 13; (with_reducible refine (HRT.out _ HS.out.bel).mono ?_); rintro e w1 ⟨rfl, rfl⟩)
        | (go_at_call 15; (with_reducible refine (HRP.out _ HS.out.bel).mono ?_); rintro e w1 ⟨rfl, rfl⟩))
      go_ret
      exact ⟨by simp, HS.out.bel⟩
  · by_cases h1 : tellE a size = 0
    · have HAK := Lib.hid (fun (W : World) (hW : Below w.heap.size w W) => ask_bad r vf vb W (hr.fs.1.old hW) (hr.bs.1.below hW) h0)
      have HE1 := HEK (askE r)
      have e0 : (askE r == 0) = false := beq_eq_false_iff_ne.2 h0
      generalize askE r = q1 at *
      obtain ⟨sn, rfl⟩ : ∃ n : Nat, size = n := ⟨size.toNat, by have := (tell_right h1).2.2.2; omega⟩
      have HTL := Lib.hid (fun (W : World) (hW : Below w.heap.size w W) => rtell_lines a vf2 vb2 sn W (ha.fs.1.old hW) (ha.bs.1.below hW) h1)
      have HTO := Lib.hid (fun (W : World) (hW : Below w.heap.size w W) => tell_ok a vf2 vb2 sn W (ha.fs.1.old hW) (ha.bs.1.below hW) h1 (hp.old hW) (hT.below hW hT.2))
      have BV3 : Hid (∀ z ∈ tellBytes a sn, 0 ≤ z ∧ z ≤ 255) := (by
        unfold tellBytes
        split
        · exact bd_app (intsOf_bd _) hbb2
        · exact bd_app (intsOf_bd _) (EN_bd hbb2 _ (tell_right h1).2.1) : ∀ z ∈ tellBytes a sn, 0 ≤ z ∧ z ≤ 255)
      rw [h1] at HRE
      have HE2 := HEN
      generalize tellBytes a sn = L3 at *
      clear hr ha h0 h1 hbb hbb2 hg HGc hT hp hsz HEK HEN
      unfold rqV rpV at *
      subst hvf hvb hv2 hv3
      have g0 := HS.out.cell 0 (by simp)
      have g1 := HS.out.cell 1 (by simp)
      have g2 := HS.out.cell 2 (by simp)
      have g3 := HS.out.cell 3 (by simp)
      have g4 := HS.out.cell 4 (by simp)
      have k0 := HR.out.cell 0 (by simp)
      have k1 := HR.out.cell 1 (by simp)
      have k2 := HR.out.cell 2 (by simp)
      simp at g0 g1 g2 g3 g4 k0 k1 k2
      have tok1 : True := trivial
      go_enter Tryz.func3, Tryz.ntmps3
      go_upto_region 9 with (first
        | (go_at_call 5; (with_reducible refine (HRA.out _ HS.out.bel).mono ?_); rintro e w1 ⟨rfl, hB⟩; replace HS := Lib.hid (HS.out.step hB); replace HR := Lib.hid (HR.out.step hB); clear hB; replace g0 := HS.out.cell 0 (by simp); simp at g0; replace g1 := HS.out.cell 1 (by simp); simp at g1; replace g2 := HS.out.cell 2 (by simp); simp at g2; replace g3 := HS.out.cell 3 (by simp); simp at g3; replace g4 := HS.out.cell 4 (by simp); simp at g4; replace k0 := HR.out.cell 0 (by simp); simp at k0; replace k1 := HR.out.cell 1 (by simp); simp at k1; replace k2 := HR.out.cell 2 (by simp); simp at k2)
        | (go_at_call 7; (with_reducible refine (HAK.out _ HS.out.bel).mono ?_); rintro e w1 ⟨rfl, hB⟩; replace HS := Lib.hid (HS.out.step hB); replace HR := Lib.hid (HR.out.step hB); clear hB; replace g0 := HS.out.cell 0 (by simp); simp at g0; replace g1 := HS.out.cell 1 (by simp); simp at g1; replace g2 := HS.out.cell 2 (by simp); simp at g2; replace g3 := HS.out.cell 3 (by simp); simp at g3; replace g4 := HS.out.cell 4 (by simp); simp at g4; replace k0 := HR.out.cell 0 (by simp); simp at k0; replace k1 := HR.out.cell 1 (by simp); simp at k1; replace k2 := HR.out.cell 2 (by simp); simp at k2)
        | (go_at_call 8; have _t := tok1; (with_reducible refine (HE1.out _ HS.out.bel).mono ?_); rintro e w1 ⟨rfl, hB⟩; clear tok1; replace HS := Lib.hid (HS.out.step hB); replace HR := Lib.hid (HR.out.step hB); clear hB; replace g0 := HS.out.cell 0 (by simp); simp at g0; replace g1 := HS.out.cell 1 (by simp); simp at g1; replace g2 := HS.out.cell 2 (by simp); simp at g2; replace g3 := HS.out.cell 3 (by simp); simp at g3; replace g4 := HS.out.cell 4 (by simp); simp at g4; replace k0 := HR.out.cell 0 (by simp); simp at k0; replace k1 := HR.out.cell 1 (by simp); simp at k1; replace k2 := HR.out.cell 2 (by simp); simp at k2))
      go_wp2_with (first
        | (go_at_call 9; (with_reducible refine (HRE.out _ HS.out.bel).mono ?_); rintro e w1 ⟨rfl, hB⟩; replace HS := Lib.hid (HS.out.step hB); replace HR := Lib.hid (HR.out.step hB); clear hB; replace g0 := HS.out.cell 0 (by simp); simp at g0; replace g1 := HS.out.cell 1 (by simp); simp at g1; replace g2 := HS.out.cell 2 (by simp); simp at g2; replace g3 := HS.out.cell 3 (by simp); simp at g3; replace g4 := HS.out.cell 4 (by simp); simp at g4; replace k0 := HR.out.cell 0 (by simp); simp at k0; replace k1 := HR.out.cell 1 (by simp); simp at k1; replace k2 := HR.out.cell 2 (by simp); simp at k2)
        | (go_at_call 10; (with_reducible refine (HTL.out _ HS.out.bel).mono ?_); rintro e w1 ⟨v3, rfl, hv3, hB⟩; obtain ⟨y3, z3, rfl, _⟩ := hv3.open; have HV3 := Lib.hid hv3; clear hv3; replace HS := Lib.hid (HS.out.step hB); replace HR := Lib.hid (HR.out.step hB); clear hB; replace g0 := HS.out.cell 0 (by simp); simp at g0; replace g1 := HS.out.cell 1 (by simp); simp at g1; replace g2 := HS.out.cell 2 (by simp); simp at g2; replace g3 := HS.out.cell 3 (by simp); simp at g3; replace g4 := HS.out.cell 4 (by simp); simp at g4; replace k0 := HR.out.cell 0 (by simp); simp at k0; replace k1 := HR.out.cell 1 (by simp); simp at k1; replace k2 := HR.out.cell 2 (by simp); simp at k2)
        | (go_at_call 11; (with_reducible refine (HTO.out _ HS.out.bel).mono ?_); rintro e w1 ⟨v4, rfl, hv4, hB⟩; obtain ⟨y4, z4, rfl, _⟩ := hv4.open; have HV4 := Lib.hid hv4; clear hv4; replace HS := Lib.hid (HS.out.step hB); replace HR := Lib.hid (HR.out.step hB); replace HV3 := Lib.hid (HV3.out.below hB); clear hB; replace g0 := HS.out.cell 0 (by simp); simp at g0; replace g1 := HS.out.cell 1 (by simp); simp at g1; replace g2 := HS.out.cell 2 (by simp); simp at g2; replace g3 := HS.out.cell 3 (by simp); simp at g3; replace g4 := HS.out.cell 4 (by simp); simp at g4; replace k0 := HR.out.cell 0 (by simp); simp at k0; replace k1 := HR.out.cell 1 (by simp); simp at k1; replace k2 := HR.out.cell 2 (by simp); simp at k2)
        | (go_at_call 8; (with_reducible refine (HE2.out _ HS.out.bel).mono ?_); rintro e w1 ⟨rfl, hB⟩; replace HS := Lib.hid (HS.out.step hB); replace HR := Lib.hid (HR.out.step hB); replace HV3 := Lib.hid (HV3.out.below hB); replace HV4 := Lib.hid (HV4.out.below hB); clear hB; replace g0 := HS.out.cell 0 (by simp); simp at g0; replace g1 := HS.out.cell 1 (by simp); simp at g1; replace g2 := HS.out.cell 2 (by simp); simp at g2; replace g3 := HS.out.cell 3 (by simp); simp at g3; replace g4 := HS.out.cell 4 (by simp); simp at g4; replace k0 := HR.out.cell 0 (by simp); simp at k0; replace k1 := HR.out.cell 1 (by simp); simp at k1; replace k2 := HR.out.cell 2 (by simp); simp at k2; have cV3 := conv_back HV3.out BV3.out; have cV4 := conv_back HV4.out BV3.out)
        | (go_at_call 12; (with_reducible refine (HTK.out _ HS.out.bel).mono ?_); rintro e w1 ⟨rfl, hB⟩; replace HS := Lib.hid (HS.out.step hB); replace HR := Lib.hid (HR.out.step hB); clear hB; replace g0 := HS.out.cell 0 (by simp); simp at g0; replace g1 := HS.out.cell 1 (by simp); simp at g1; replace g2 := HS.out.cell 2 (by simp); simp at g2; replace g3 := HS.out.cell 3 (by simp); simp at g3; replace g4 := HS.out.cell 4 (by simp); simp at g4; replace k0 := HR.out.cell 0 (by simp); simp at k0; replace k1 := HR.out.cell 1 (by simp); simp at k1; replace k2 := HR.out.cell 2 (by simp); simp at k2)
        | (go_at_call 14; (with_reducible refine (HPL.out _ HS.out.bel).mono ?_); rintro e w1 ⟨rfl, hB⟩; replace HS := Lib.hid (HS.out.step hB); replace HR := Lib.hid (HR.out.step hB); clear hB; replace g0 := HS.out.cell 0 (by simp); simp at g0; replace g1 := HS.out.cell 1 (by simp); simp at g1; replace g2 := HS.out.cell 2 (by simp); simp at g2; replace g3 := HS.out.cell 3 (by simp); simp at g3; replace g4 := HS.out.cell 4 (by simp); simp at g4; replace k0 := HR.out.cell 0 (by simp); simp at k0; replace k1 := HR.out.cell 1 (by simp); simp at k1; replace k2 := HR.out.cell 2 (by simp); simp at k2)
        | (go_at_call 13; (with_reducible refine (HRT.out _ HS.out.bel).mono ?_); rintro e w1 ⟨rfl, rfl⟩)
        | (go_at_call 15; (with_reducible refine (HRP.out _ HS.out.bel).mono ?_); rintro e w1 ⟨rfl, rfl⟩))
      go_ret
      exact ⟨by simp, HS.out.bel⟩
    · have HAK := Lib.hid (fun (W : World) (hW : Below w.heap.size w W) => ask_bad r vf vb W (hr.fs.1.old hW) (hr.bs.1.below hW) h0)
      have HE1 := HEK (askE r)
      have e0 : (askE r == 0) = false := beq_eq_false_iff_ne.2 h0
      generalize askE r = q1 at *
      have HTO := Lib.hid (fun (W : World) (hW : Below w.heap.size w W) => tell_bad a vf2 vb2 size W (ha.fs.1.old hW) (ha.bs.1.below hW) h1)
      have HE2 := HEK (tellE a size)
      have e1 : (tellE a size == 0) = false := beq_eq_false_iff_ne.2 h1
      generalize tellE a size = q2 at *
      clear hr ha h0 h1 hbb hbb2 hg HGc hT hp hsz HEK HEN
      unfold rqV rpV at *
      subst hvf hvb hv2 hv3
      have g0 := HS.out.cell 0 (by simp)
      have g1 := HS.out.cell 1 (by simp)
      have g2 := HS.out.cell 2 (by simp)
      have g3 := HS.out.cell 3 (by simp)
      have g4 := HS.out.cell 4 (by simp)
      have k0 := HR.out.cell 0 (by simp)
      have k1 := HR.out.cell 1 (by simp)
      have k2 := HR.out.cell 2 (by simp)
      simp at g0 g1 g2 g3 g4 k0 k1 k2
      have tok1 : True := trivial
      go_enter Tryz.func3, Tryz.ntmps3
      go_upto_region 9 with (first
        | (go_at_call 5; (with_reducible refine (HRA.out _ HS.out.bel).mono ?_); rintro e w1 ⟨rfl, hB⟩; replace HS := Lib.hid (HS.out.step hB); replace HR := Lib.hid (HR.out.step hB); clear hB; replace g0 := HS.out.cell 0 (by simp); simp at g0; replace g1 := HS.out.cell 1 (by simp); simp at g1; replace g2 := HS.out.cell 2 (by simp); simp at g2; replace g3 := HS.out.cell 3 (by simp); simp at g3; replace g4 := HS.out.cell 4 (by simp); simp at g4; replace k0 := HR.out.cell 0 (by simp); simp at k0; replace k1 := HR.out.cell 1 (by simp); simp at k1; replace k2 := HR.out.cell 2 (by simp); simp at k2)
        | (go_at_call 7; (with_reducible refine (HAK.out _ HS.out.bel).mono ?_); rintro e w1 ⟨rfl, hB⟩; replace HS := Lib.hid (HS.out.step hB); replace HR := Lib.hid (HR.out.step hB); clear hB; replace g0 := HS.out.cell 0 (by simp); simp at g0; replace g1 := HS.out.cell 1 (by simp); simp at g1; replace g2 := HS.out.cell 2 (by simp); simp at g2; replace g3 := HS.out.cell 3 (by simp); simp at g3; replace g4 := HS.out.cell 4 (by simp); simp at g4; replace k0 := HR.out.cell 0 (by simp); simp at k0; replace k1 := HR.out.cell 1 (by simp); simp at k1; replace k2 := HR.out.cell 2 (by simp); simp at k2)
        | (go_at_call 8; have _t := tok1; (with_reducible refine (HE1.out _ HS.out.bel).mono ?_); rintro e w1 ⟨rfl, hB⟩; clear tok1; replace HS := Lib.hid (HS.out.step hB); replace HR := Lib.hid (HR.out.step hB); clear hB; replace g0 := HS.out.cell 0 (by simp); simp at g0; replace g1 := HS.out.cell 1 (by simp); simp at g1; replace g2 := HS.out.cell 2 (by simp); simp at g2; replace g3 := HS.out.cell 3 (by simp); simp at g3; replace g4 := HS.out.cell 4 (by simp); simp at g4; replace k0 := HR.out.cell 0 (by simp); simp at k0; replace k1 := HR.out.cell 1 (by simp); simp at k1; replace k2 := HR.out.cell 2 (by simp); simp at k2))
      go_wp2_with (first
        | (go_at_call 9; (with_reducible refine (HRE.out _ HS.out.bel).mono ?_); rintro e w1 ⟨rfl, hB⟩; replace HS := Lib.hid (HS.out.step hB); replace HR := Lib.hid (HR.out.step hB); clear hB; replace g0 := HS.out.cell 0 (by simp); simp at g0; replace g1 := HS.out.cell 1 (by simp); simp at g1; replace g2 := HS.out.cell 2 (by simp); simp at g2; replace g3 := HS.out.cell 3 (by simp); simp at g3; replace g4 := HS.out.cell 4 (by simp); simp at g4; replace k0 := HR.out.cell 0 (by simp); simp at k0; replace k1 := HR.out.cell 1 (by simp); simp at k1; replace k2 := HR.out.cell 2 (by simp); simp at k2)
        | (go_at_call 11; (with_reducible refine (HTO.out _ HS.out.bel).mono ?_); rintro e w1 ⟨rfl, hB⟩; replace HS := Lib.hid (HS.out.step hB); replace HR := Lib.hid (HR.out.step hB); clear hB; replace g0 := HS.out.cell 0 (by simp); simp at g0; replace g1 := HS.out.cell 1 (by simp); simp at g1; replace g2 := HS.out.cell 2 (by simp); simp at g2; replace g3 := HS.out.cell 3 (by simp); simp at g3; replace g4 := HS.out.cell 4 (by simp); simp at g4; replace k0 := HR.out.cell 0 (by simp); simp at k0; replace k1 := HR.out.cell 1 (by simp); simp at k1; replace k2 := HR.out.cell 2 (by simp); simp at k2)
        | (go_at_call 8; (with_reducible refine (HE2.out _ HS.out.bel).mono ?_); rintro e w1 ⟨rfl, hB⟩; replace HS := Lib.hid (HS.out.step hB); replace HR := Lib.hid (HR.out.step hB); clear hB; replace g0 := HS.out.cell 0 (by simp); simp at g0; replace g1 := HS.out.cell 1 (by simp); simp at g1; replace g2 := HS.out.cell 2 (by simp); simp at g2; replace g3 := HS.out.cell 3 (by simp); simp at g3; replace g4 := HS.out.cell 4 (by simp); simp at g4; replace k0 := HR.out.cell 0 (by simp); simp at k0; replace k1 := HR.out.cell 1 (by simp); simp at k1; replace k2 := HR.out.cell 2 (by simp); simp at k2)
        | (go_at_call 12; (with_reducible refine (HTK.out _ HS.out.bel).mono ?_); rintro e w1 ⟨rfl, hB⟩; replace HS := Lib.hid (HS.out.step hB); replace HR := Lib.hid (HR.out.step hB); clear hB; replace g0 := HS.out.cell 0 (by simp); simp at g0; replace g1 := HS.out.cell 1 (by simp); simp at g1; replace g2 := HS.out.cell 2 (by simp); simp at g2; replace g3 := HS.out.cell 3 (by simp); simp at g3; replace g4 := HS.out.cell 4 (by simp); simp at g4; replace k0 := HR.out.cell 0 (by simp); simp at k0; replace k1 := HR.out.cell 1 (by simp); simp at k1; replace k2 := HR.out.cell 2 (by simp); simp at k2)
        | (go_at_call 14; (with_reducible refine (HPL.out _ HS.out.bel).mono ?_); rintro e w1 ⟨rfl, hB⟩; replace HS := Lib.hid (HS.out.step hB); replace HR := Lib.hid (HR.out.step hB); clear hB; replace g0 := HS.out.cell 0 (by simp); simp at g0; replace g1 := HS.out.cell 1 (by simp); simp at g1; replace g2 := HS.out.cell 2 (by simp); simp at g2; replace g3 := HS.out.cell 3 (by simp); simp at g3; replace g4 := HS.out.cell 4 (by simp); simp at g4; replace k0 := HR.out.cell 0 (by simp); simp at k0; replace k1 := HR.out.cell 1 (by simp); simp at k1; replace k2 := HR.out.cell 2 (by simp); simp at k2)
        | (go_at_call 13; (with_reducible refine (HRT.out _ HS.out.bel).mono ?_); rintro e w1 ⟨rfl, rfl⟩)
        | (go_at_call 15; (with_reducible refine (HRP.out _ HS.out.bel).mono ?_); rintro e w1 ⟨rfl, rfl⟩))
      go_ret
      exact ⟨by simp, HS.out.bel⟩
end Go.Proofs.YtincckopnebceaaGreatDoor.WalkLineTells
