/-
  A request as lines: package line's Ask and the reference's AskLines.
  Conditions: the request is right.
-/
import Derived.Test.YtkohbbnnjakhjaaGreatDoorAskLines
import Derived.Test.YtkohbbnnjakhjaaGreatDoorConvAppF
namespace Go.Proofs.YtkohbbnnjakhjaaGreatDoor.LineM
open Go.RowKit Go.Shelf RowsK LineC FieldRows BA AfterL
set_option linter.unusedVariables false
set_option linter.unusedSimpArgs false

set_option maxRecDepth 100000 in
set_option maxHeartbeats 8000000 in
theorem ask_fresh (r : Rq) (vf vb : Value) (w : World) (hf : At encF w vf r.fields) (hb : BytesAt w vb r.body) (hok : askE r = 0) (hp : Pow10 w) :
    Calls Tryz.prog 5 #[rqV r vf vb] w fun e w' => ∃ v, e = .returned (.tuple #[v, .nilIface]) ∧ Fresh w' w.heap.size v (askBytes r) ∧ Below w.heap.size w w' := by
  have HC := Lib.hid (fun (W : World) (hW : Below w.heap.size w W) => checkAsk_any r vf vb W (hf.old hW) (hb.below hW))
  rw [hok, errV0] at HC
  obtain ⟨s1, s2, s3, s4, s5⟩ := ask_right hok
  have HLN := Lib.hid (fun (W : World) (hW : Below w.heap.size w W) => lines_any vf r.fields W (hf.old hW) s4)
  have HBD := Lib.hid (fun (W : World) (hW : Below w.heap.size w W) => hb.below hW)
  have HIT := Lib.hid (fun (W : World) (hW : Below w.heap.size w W) => itoa_any r.body.length s5 W (hp.old hW))
  have hcat := ask_cat r
  have hhl := askHead_len hok
  have hls := linesS_size s4
  have hall : askBytes r = intsOf (askHead r ++ lenL r.body.length ++ [13, 10]) ++ r.body := rfl
  rw [hall]
  have hsz : (⟨(askHead r).toArray⟩ : ByteArray).size ≤ 40000 := by rw [size_mk]; exact hhl
  have hb8 : (intsOf (askHead r ++ lenL r.body.length ++ [13, 10])).length + r.body.length < 140737488355328 := by
    have := lenL_len s5
    rw [intsOf_len]
    simp only [List.length_append, List.length_cons, List.length_nil]; omega
  have HB8 := Lib.hid hb8
  have hds := dec_size s5
  obtain ⟨af, cf, rfl, hf'⟩ := hf
  obtain ⟨ab, cb, rfl, hb'⟩ := hb.open
  unfold rqV at *
  have HS := Lib.hid (HeldQ.new w #[.string r.method, .string r.path, .string r.host, .slice af r.fields.length cf, .slice ab r.body.length cb] 25)
  clear hf' hb' hb hok hall hb8
  have hlc := fun (h : r.body.length ≠ 0) => len_cat r.body.length h (askHead r)
  have hl0 := len_cat0 (askHead r)
  have HLC := Lib.hid hlc
  have HL0 := Lib.hid hl0
  have HCAT := Lib.hid hcat
  have hl1 := lenL_len s5
  clear hlc hl0 hcat
  generalize askHead r = hd at *
  obtain ⟨rm, rp, rh, rf, rb⟩ := r
  simp only at *
  generalize linesS rf = ls at *
  generalize hn : rf.length = lf at *
  obtain ⟨nb, hnb⟩ : ∃ n, rb.length = n := ⟨_, rfl⟩
  rw [hnb] at HS HLC HIT HC HB8 s5 hds hl1 HBD ⊢
  have HNB := Lib.hid hnb
  clear hnb hn s4
  go_enter Tryz.func5, Tryz.ntmps5
  go_wp2_with (go_at_call 20; (with_reducible refine (HC.out _ HS.out.bel).mono ?_); rintro e w1 ⟨rfl, hB1⟩; replace HS := Lib.hid (HS.out.step hB1); clear hB1)
  clear HC
  have g0 := HS.out.cell 0 (by simp)
  have g1 := HS.out.cell 1 (by simp)
  have g2 := HS.out.cell 2 (by simp)
  have g3 := HS.out.cell 3 (by simp)
  simp at g0 g1 g2 g3
  generalize hS1 : (⟨hd.toArray⟩ : ByteArray) = S1 at *
  have HS1 := Lib.hid hS1
  clear hS1
  go_cut [5] from 11 (fun s wx => s = .string S1 ∧ Below w1.heap.size w1 wx)
  case first =>
    have q0 : ∀ n : After w1, n.1.cell? ⟨w.heap.size, 0, none⟩ = some (.string rm) := fun n => n.cell g0
    have q1 : ∀ n : After w1, n.1.cell? ⟨w.heap.size, 1, none⟩ = some (.string rp) := fun n => n.cell g1
    have q2 : ∀ n : After w1, n.1.cell? ⟨w.heap.size, 2, none⟩ = some (.string rh) := fun n => n.cell g2
    have q3 : ∀ n : After w1, n.1.cell? ⟨w.heap.size, 3, none⟩ = some (.slice af lf cf) := fun n => n.cell g3
    have HLA : Hid (∀ n : After w1, Calls Tryz.prog 21 #[.slice af lf cf] n.1 fun e w' => e = .returned (.string ls) ∧ Below n.1.heap.size n.1 w') := (fun n => HLN.out n.1 (bstep HS.out.bel n.2))
    clear g0 g1 g2 g3
    have k0 : ¬ 9223372036854775807 < rm.size + 1 := by omega
    have k1 : ¬ 9223372036854775807 < rm.size + 1 + rp.size := by omega
    have k2 : ¬ 9223372036854775807 < rm.size + 1 + rp.size + 7 := by omega
    have k3 : ¬ 9223372036854775807 < rm.size + 1 + rp.size + 7 + 2 := by omega
    have k4 : ¬ 9223372036854775807 < rm.size + 1 + rp.size + 7 + 2 + 6 := by omega
    have k5 : ¬ 9223372036854775807 < rm.size + 1 + rp.size + 7 + 2 + 6 + rh.size := by omega
    have k6 : ¬ 9223372036854775807 < rm.size + 1 + rp.size + 7 + 2 + 6 + rh.size + 2 := by omega
    have k7 : ¬ 9223372036854775807 < rm.size + 1 + rp.size + 7 + 2 + 6 + rh.size + 2 + ls.size := by omega
    refine wp_region_after w1 (Below.refl _ _) (by kernel_rfl) (by kernel_rfl) ?_
    repeat (go_big_quiet_step (((go_at_call 21); refine After.call (HLA.out _))))
    refine wpQuiet_nil ?_
    rintro w2 ⟨n2, rfl⟩
    obtain ⟨w2, hB2⟩ := n2
    simp only
    clear q0 q1 q2 q3
    go_wp2
    go_meet
    exact ⟨congrArg _ HCAT.out, hB2⟩
  case rest =>
    obtain ⟨rfl, hB2⟩ := hcut
    replace HS := Lib.hid (HS.out.step hB2)
    clear hB2 g0 g1 g2 g3 HLN HCAT
    have g4 := HS.out.cell 4 (by simp)
    simp at g4
    by_cases h0 : nb = 0
    · subst h0
      have hf1 : ¬ 9223372036854775807 < S1.size + 2 := by omega
      obtain ⟨S3, hS3⟩ : ∃ S, (⟨(hd ++ lenL 0 ++ [13, 10]).toArray⟩ : ByteArray) = S := ⟨_, rfl⟩
      have hq := HL0.out
      rw [hS3] at hq
      have HS3 : Hid (S3.data.toList = hd ++ lenL 0 ++ [13, 10]) := (by rw [← hS3] : S3.data.toList = hd ++ lenL 0 ++ [13, 10])
      have HSZ : Hid (S3.size = (intsOf (hd ++ lenL 0 ++ [13, 10])).length) := (by rw [← hS3, size_mk, intsOf_len] : S3.size = (intsOf (hd ++ lenL 0 ++ [13, 10])).length)
      clear hS3 HLC HIT
      go_upto_region 7 with fail
      have hcz : S3.size ≤ 140737488355328 := by have := HSZ.out; have := HB8.out; omega
      obtain ⟨cap3, w4, hrun, hB4, hCv⟩ := convd_new S3 wc hcz
      have hwz := HS.out.bel.size
      replace HS := Lib.hid (HS.out.step hB4)
      have g5 := HS.out.cell 4 (by simp)
      simp at g5
      have HCV : Hid (Convd w4 w.heap.size wc.heap.size cap3 (intsOf (hd ++ lenL 0 ++ [13, 10]))) := (by
        rw [HS3.out] at hCv
        exact { hCv with bg := hwz })
      have HBY := Lib.hid (HBD.out w4 HS.out.bel)
      clear hCv hB4 hwz hcz hsz hds hl1
      go_wp2_with (at_builtin; refine wpList_append_fresh rfl _ _ rfl w.heap.size wc.heap.size _ cap3 _ rfl HSZ.out HCV.out _ rb rfl HBY.out (by rw [HNB.out]; exact Nat.le_trans (Nat.le_of_lt HB8.out) (by decide)) ?_; intro v2 w5 hat2 hB5)
      go_ret2
      exact ⟨v2, rfl, hat2, HS.out.bel.trans hB5⟩
    · have HLC1 := Lib.hid (HLC.out h0)
      have h1 : (0 : Int) < (nb : Int) := by omega
      obtain ⟨S3, hS3⟩ : ∃ S, (⟨(hd ++ lenL nb ++ [13, 10]).toArray⟩ : ByteArray) = S := ⟨_, rfl⟩
      have hq := HLC1.out
      rw [hS3] at hq
      have HS3 : Hid (S3.data.toList = hd ++ lenL nb ++ [13, 10]) := (by rw [← hS3] : S3.data.toList = hd ++ lenL nb ++ [13, 10])
      have HSZ : Hid (S3.size = (intsOf (hd ++ lenL nb ++ [13, 10])).length) := (by rw [← hS3, size_mk, intsOf_len] : S3.size = (intsOf (hd ++ lenL nb ++ [13, 10])).length)
      generalize decS nb = ds at *
      have hk1 : ¬ 9223372036854775807 < 8 + ds.size := by omega
      have hk2 : ¬ 9223372036854775807 < 8 + ds.size + 2 := by omega
      have hk3 : ¬ 9223372036854775807 < S1.size + (8 + ds.size + 2) := by omega
      have hk4 : ¬ 9223372036854775807 < S1.size + (8 + ds.size + 2) + 2 := by omega
      have HQ := Lib.hid hq
      clear hS3 HLC HLC1 h0 hq
      go_upto_region 7 with (go_at_call 22; (with_reducible refine (HIT.out _ HS.out.bel).mono ?_); rintro e w3 ⟨rfl, hB3⟩; replace HS := Lib.hid (HS.out.step hB3); clear hB3)
      have hq := HQ.out
      have hcz : S3.size ≤ 140737488355328 := by have := HSZ.out; have := HB8.out; omega
      obtain ⟨cap3, w4, hrun, hB4, hCv⟩ := convd_new S3 w3 hcz
      have hwz := HS.out.bel.size
      replace HS := Lib.hid (HS.out.step hB4)
      have g5 := HS.out.cell 4 (by simp)
      simp at g5
      have HCV : Hid (Convd w4 w.heap.size w3.heap.size cap3 (intsOf (hd ++ lenL nb ++ [13, 10]))) := (by
        rw [HS3.out] at hCv
        exact { hCv with bg := hwz })
      have HBY := Lib.hid (HBD.out w4 HS.out.bel)
      clear hCv hB4 hwz hcz hsz hds hl1
      go_wp2_with (at_builtin; refine wpList_append_fresh rfl _ _ rfl w.heap.size w3.heap.size _ cap3 _ rfl HSZ.out HCV.out _ rb rfl HBY.out (by rw [HNB.out]; exact Nat.le_trans (Nat.le_of_lt HB8.out) (by decide)) ?_; intro v2 w5 hat2 hB5)
      go_ret2
      exact ⟨v2, rfl, hat2, HS.out.bel.trans hB5⟩
end Go.Proofs.YtkohbbnnjakhjaaGreatDoor.LineM
