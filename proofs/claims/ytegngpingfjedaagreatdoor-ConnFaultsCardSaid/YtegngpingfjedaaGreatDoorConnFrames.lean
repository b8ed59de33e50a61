/-
  The law's own frames: of bytes that are one frame.
  Conditions: where the bytes lie.
-/
import Derived.Test.YtegngpingfjedaaGreatDoorConnFeed
import Derived.Test.YtegngpingfjedaaGreatDoorRowsK
namespace Go.Proofs.YtegngpingfjedaaGreatDoor.ConnS
open Go.RowKit ModL ConnR BA WireBig SlicesB FrameC FrameP
set_option linter.unusedVariables false
set_option linter.unusedSimpArgs false

abbrev Fr4 := Int × Int × Int × Option Addr × Nat × Nat
def encFr : RowsK.Enc Fr4 := ⟨4, fun x => [.int .i64 x.1, .int .i64 x.2.1, .int .i64 x.2.2.1, .slice x.2.2.2.1 x.2.2.2.2.1 x.2.2.2.2.2], fun _ => rfl, fun x v hv => by simp at hv; rcases hv with rfl | rfl | rfl | rfl <;> rfl, by decide⟩
set_option maxRecDepth 100000 in
theorem elemFr : RowsK.Elem Tryz.prog 45 38 encFr.k 48 := RowsK.Elem.of (z := .agg #[.int .i64 0, .int .i64 0, .int .i64 0, .slice none 0 0]) Tryz.underlying45 (by kernel_rfl) rfl (by decide)
def lenV : Value → Nat
  | .slice _ n _ => n
  | _ => 0
/-- A row of one frame. -/
def OneF (w : World) (v : Value) (f : Fr) : Prop := ∃ b c ab cb, v = .slice (some ⟨b, 0, none⟩) 1 c ∧ w.cell? ⟨b, 0, none⟩ = some (.int .i64 f.kind) ∧ w.cell? ⟨b, 1, none⟩ = some (.int .i64 f.flags) ∧ w.cell? ⟨b, 2, none⟩ = some (.int .i64 f.stream) ∧ w.cell? ⟨b, 3, none⟩ = some (.slice ab f.body.length cb) ∧ BytesAt w (.slice ab f.body.length cb) f.body ∧ b < w.heap.size
set_option maxRecDepth 100000 in
set_option maxHeartbeats 8000000 in
theorem frames_one (f : Fr) (hgd : good f) (hby : Args.ByteL f.body) (v : Value) (w : World) (hv : BytesAt w v f.bytes) :
    Calls Tryz.prog 17 #[v] w fun e w' => ∃ vl, e = .returned (.tuple #[vl, .bool true]) ∧ OneF w' vl f ∧ Below w.heap.size w w' := by
  obtain ⟨av, cv, rfl, hcv1, hcv2, hcv3, -⟩ := hv.open
  have HV := Lib.hid hv
  have HGD := Lib.hid (And.intro hgd hby)
  have HBL := Lib.hid (bytes_len f)
  have HRB := Lib.hid (read_back f hgd [])
  simp only [List.append_nil] at HRB
  obtain ⟨n2, hn2⟩ : ∃ n, f.bytes.length = n := ⟨_, rfl⟩
  rw [hn2] at hcv1 HV HBL ⊢
  obtain ⟨ae, ce, hsl, -⟩ := slice_endC av n2 cv hcv1 hcv2 hcv3
  clear hv hgd hby hn2 hcv1 hcv2 hcv3
  have hn1 : (0 : Int) < (n2 : Int) := by have := HBL.out; omega
  have hn3 : ¬ (n2 : Int) < 1 := by omega
  go_enter Tryz.func17, Tryz.ntmps17
  go_wp2_with fail
  go_loopw [0, 4] (fun bv lv wi => Hid ((bv = .slice av n2 cv ∧ lv = .slice none 0 0 ∧ Below w.heap.size w wi) ∨ (bv = .slice ae 0 ce ∧ OneF wi lv f ∧ Below w.heap.size w wi))) (fun bv _ _ => lenV bv)
  case atStart => exact .inl ⟨rfl, rfl, Below.refl _ _⟩
  case round =>
    rcases hrel.out with ⟨rfl, rfl, hB⟩ | ⟨rfl, ⟨b, c, ab, cb, rfl, o0, o1, o2, o3, o4, o5⟩, hB⟩
    · have HRD : Hid (Calls Tryz.prog 24 #[.slice av n2 cv] wr fun e w' => Below wr.heap.size wr w' ∧ ∃ a c, e = .returned (.tuple #[.agg #[.int .i64 f.kind, .int .i64 f.flags, .int .i64 f.stream, .slice a f.body.length c], .int .i64 (n2 : Int), .nilIface]) ∧ BytesL.Own w' wr.heap.size (.slice a f.body.length c) f.body) := by
        refine (read_any _ f.bytes wr (HV.out.below hB) (good_bytes f HGD.out.1 HGD.out.2) (by have h1 := bytes_len f; have := HGD.out.1.2; omega)).mono ?_
        rintro e w' ⟨hB, ⟨hne, -⟩ | ⟨-, vb, rfl, hO⟩⟩
        · exact absurd HRB.out.1 hne
        · rw [HRB.out.2.1] at hO
          obtain ⟨a, c, rfl, -⟩ := hO.slice
          refine ⟨hB, a, c, ?_, hO⟩
          rw [HRB.out.2.1, HRB.out.2.2, show ((f.body.length : Int) + 9) = (n2 : Int) from by have := HBL.out; omega]
          rfl
      have HB := Lib.hid hB
      clear hB hrel
      go_upto_region 6 with (first
        | (go_at_call 24; refine HRD.out.mono ?_; rintro e w3 ⟨hB3, ab, cb, rfl, hOb⟩; have HB3 := Lib.hid hB3; have HOb := Lib.hid hOb; clear hB3 hOb)
        | fail)
      have hB4 : Below w3.heap.size w3 (w3.alloc (.cells #[.int .i64 f.kind, .int .i64 f.flags, .int .i64 f.stream, .slice ab f.body.length cb] 38)) := (Below.refl _ _).alloc (Nat.le_refl _) _
      have p0 : (w3.alloc (.cells #[.int .i64 f.kind, .int .i64 f.flags, .int .i64 f.stream, .slice ab f.body.length cb] 38)).cell? ⟨w3.heap.size, 0, none⟩ = some (.int .i64 f.kind) := by simp
      have p1 : (w3.alloc (.cells #[.int .i64 f.kind, .int .i64 f.flags, .int .i64 f.stream, .slice ab f.body.length cb] 38)).cell? ⟨w3.heap.size, 1, none⟩ = some (.int .i64 f.flags) := by simp
      have p2 : (w3.alloc (.cells #[.int .i64 f.kind, .int .i64 f.flags, .int .i64 f.stream, .slice ab f.body.length cb] 38)).cell? ⟨w3.heap.size, 2, none⟩ = some (.int .i64 f.stream) := by simp
      have p3 : (w3.alloc (.cells #[.int .i64 f.kind, .int .i64 f.flags, .int .i64 f.stream, .slice ab f.body.length cb] 38)).cell? ⟨w3.heap.size, 3, none⟩ = some (.slice ab f.body.length cb) := by simp
      have HOb4 := Lib.hid (ownB_of HOb.out (fun k hk => hB4.block k (ownB_lt HOb.out k hk).2))
      have HB4 := Lib.hid (HB.out.trans ((HB3.out.trans (hB4.mono HB3.out.size)).mono HB.out.size))
      clear hB4
      generalize (w3.alloc (.cells #[.int .i64 f.kind, .int .i64 f.flags, .int .i64 f.stream, .slice ab f.body.length cb] 38)) = w4 at *
      have HA := Lib.hid (RowsK.Own.lit (E := encFr) (b := w4.heap.size) (e := 38) w4 #[.int .i64 f.kind, .int .i64 f.flags, .int .i64 f.stream, .slice ab f.body.length cb] [(f.kind, f.flags, f.stream, ab, f.body.length, cb)] (Nat.le_refl _) (by simp) rfl).at_
      have hB5 : Below w4.heap.size w4 (w4.alloc (.cells #[.int .i64 f.kind, .int .i64 f.flags, .int .i64 f.stream, .slice ab f.body.length cb] 38)) := (Below.refl _ _).alloc (Nat.le_refl _) _
      have HB5 := Lib.hid (HB4.out.trans (hB5.mono HB4.out.size))
      have HOb5 := Lib.hid (HOb4.out.below hB5)
      clear hB5
      go_wp2_with (first
        | (at_builtin; refine RowsK.wpList_append elemFr rfl _ _ rfl w4.heap.size (.slice none 0 0) rfl (RowsK.Own.nil _ _ _ _) _ [(f.kind, f.flags, f.stream, ab, f.body.length, cb)] rfl HA.out (by simp) (by simp) ?_; intro v6 w6 hown6 hB6 hg6 hat6; have HO6 := Lib.hid hown6; have HB6 := Lib.hid hB6; clear hown6 hB6 hg6 hat6)
        | fail)
      obtain ⟨b6, c6, e6, -, -, -, hlt6, hel6⟩ := HO6.out.slice1 1 rfl (by decide)
      have hBT : Below w.heap.size w w6 := HB5.out.trans (HB6.out.mono (Nat.le_trans HB4.out.size (Nat.le_refl _)))
      have hX := BytesAt.of_own (ownB_of HOb5.out (fun k hk => HB6.out.block k (by have := (ownB_lt HOb4.out k hk).2; omega)))
      refine ⟨.inr ⟨rfl, ⟨b6, c6, ab, cb, e6, hel6 0 (by simp) 0 (by decide), hel6 0 (by simp) 1 (by decide), hel6 0 (by simp) 2 (by decide), hel6 0 (by simp) 3 (by decide), hX, hlt6⟩, hBT⟩, ?_⟩
      simp only [lenV]
      omega
    · go_wp2_with fail
      go_ret2
      exact ⟨_, rfl, ⟨b, c, ab, cb, rfl, o0, o1, o2, o3, o4, o5⟩, hB⟩
end Go.Proofs.YtegngpingfjedaaGreatDoor.ConnS
