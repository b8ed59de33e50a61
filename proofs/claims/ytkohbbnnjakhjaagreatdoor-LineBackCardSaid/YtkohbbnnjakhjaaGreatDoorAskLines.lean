/-
  A request as lines: package line's Ask and the reference's AskLines.
  Conditions: the request is right.
-/
import Derived.Test.YtkohbbnnjakhjaaGreatDoorLinesC
import Derived.Test.YtkohbbnnjakhjaaGreatDoorConvApp
import Derived.Test.YtkohbbnnjakhjaaGreatDoorAfter
import Derived.Deep.CutRange
namespace Go.Proofs.YtkohbbnnjakhjaaGreatDoor.LineM
open Go.RowKit Go.Shelf RowsK LineC FieldRows BA AfterL
set_option linter.unusedVariables false
set_option linter.unusedSimpArgs false

def askHead (r : Rq) : List UInt8 := r.method.data.toList ++ [32] ++ r.path.data.toList ++ [32, 69, 68, 71, 69, 47, 49] ++ [13, 10] ++ [104, 111, 115, 116, 58, 32] ++ r.host.data.toList ++ [13, 10] ++ linesL r.fields
def lenL (n : Nat) : List UInt8 := if n = 0 then [] else [108, 101, 110, 103, 116, 104, 58, 32] ++ Lib.decDigits n ++ [13, 10]
/-- The lines of a request, its body behind them. -/
def askBytes (r : Rq) : List Int := intsOf (askHead r ++ lenL r.body.length ++ [13, 10]) ++ r.body
theorem Pow10.old {w w' : World} (h : Pow10 w) (hB : Below w.heap.size w w') : Pow10 w' := by
  unfold Pow10 Lib.TabIs at h ⊢
  have hg : ∃ g, Tryz.prog.globalNamed "internal/strconv.uint64pow10" = some g := by
    unfold World.var? at h
    cases e : Tryz.prog.globalNamed "internal/strconv.uint64pow10" with
    | none => rw [e] at h; cases h
    | some g => exact ⟨g, rfl⟩
  obtain ⟨g, hg⟩ := hg
  refine var?_below hB hg ?_ h
  unfold World.var? at h
  rw [hg] at h
  rcases Nat.lt_or_ge g w.heap.size with h' | h'
  · exact h'
  · simp [Array.getElem?_eq_none h'] at h
theorem ask_right {r : Rq} (h : askE r = 0) : r.method.size ≤ 400 ∧ r.path.size ≤ 400 ∧ r.host.size ≤ 400 ∧ Small r.fields ∧ r.body.length ≤ 8000 := by
  unfold askE at h
  split at h
  · cases h
  · rename_i h1
    split at h
    · cases h
    · rename_i h2
      unfold fullB at h1
      simp only [Bool.or_eq_true, decide_eq_true_eq, not_or, Bool.not_eq_true', Bool.not_eq_false] at h1 h2
      refine ⟨?_, ?_, ?_, small_of h (by omega), by omega⟩
      · rw [size_list]; exact (tok_len h2.1.1.1).1
      · rw [size_list]; exact word_len h2.1.1.2
      · rw [size_list]; exact plain_len h2.2
theorem ask_cat (r : Rq) : r.method ++ ⟨#[32]⟩ ++ r.path ++ ⟨#[32, 69, 68, 71, 69, 47, 49]⟩ ++ ⟨#[13, 10]⟩ ++ ⟨#[104, 111, 115, 116, 58, 32]⟩ ++ r.host ++ ⟨#[13, 10]⟩ ++ linesS r.fields = (⟨(askHead r).toArray⟩ : ByteArray) := by
  apply ByteArray.ext
  simp [askHead, linesS, List.append_assoc]
theorem rask_cat (r : Rq) : r.method ++ ⟨#[32]⟩ ++ r.path ++ ⟨#[32, 69, 68, 71, 69, 47, 49, 13, 10, 104, 111, 115, 116, 58, 32]⟩ ++ r.host ++ ⟨#[13, 10]⟩ ++ linesS r.fields = (⟨(askHead r).toArray⟩ : ByteArray) := by
  apply ByteArray.ext
  simp [askHead, linesS, List.append_assoc]
theorem askHead_len {r : Rq} (h : askE r = 0) : (askHead r).length ≤ 40000 := by
  obtain ⟨h1, h2, h3, h4, _⟩ := ask_right h
  have h5 := linesS_size h4
  unfold linesS at h5
  rw [size_mk] at h5
  rw [size_list] at h1 h2 h3
  unfold askHead
  simp only [List.length_append, List.length_cons, List.length_nil]; omega
theorem len_cat (n : Nat) (h : n ≠ 0) (S : List UInt8) : (⟨S.toArray⟩ : ByteArray) ++ (⟨#[108, 101, 110, 103, 116, 104, 58, 32]⟩ ++ decS n ++ ⟨#[13, 10]⟩) ++ ⟨#[13, 10]⟩ = (⟨(S ++ lenL n ++ [13, 10]).toArray⟩ : ByteArray) := by
  apply ByteArray.ext
  simp [lenL, h, decS, List.append_assoc]
theorem rlen_cat (n : Nat) (h : n ≠ 0) (S : List UInt8) : (⟨S.toArray⟩ : ByteArray) ++ ⟨#[108, 101, 110, 103, 116, 104, 58, 32]⟩ ++ decS n ++ ⟨#[13, 10]⟩ ++ ⟨#[13, 10]⟩ = (⟨(S ++ lenL n ++ [13, 10]).toArray⟩ : ByteArray) := by
  apply ByteArray.ext
  simp [lenL, h, decS, List.append_assoc]
theorem len_cat0 (S : List UInt8) : (⟨S.toArray⟩ : ByteArray) ++ ⟨#[13, 10]⟩ = (⟨(S ++ lenL 0 ++ [13, 10]).toArray⟩ : ByteArray) := by
  apply ByteArray.ext
  simp [lenL]
theorem lenL_len {n : Nat} (h : n ≤ 8000) : (lenL n).length ≤ 14 := by
  unfold lenL
  split
  · simp
  · have := dec_len 3 n (by omega)
    simp only [List.length_append, List.length_cons, List.length_nil]; omega
theorem dec_size {n : Nat} (h : n ≤ 8000) : (decS n).size ≤ 4 := by unfold decS; rw [size_mk]; exact dec_len 3 n (by omega)
set_option maxRecDepth 100000 in
set_option maxHeartbeats 8000000 in
theorem ask_bad (r : Rq) (vf vb : Value) (w : World) (hf : At encF w vf r.fields) (hb : BytesAt w vb r.body) (hok : askE r ≠ 0) :
    Calls Tryz.prog 5 #[rqV r vf vb] w fun e w' => e = .returned (.tuple #[.slice none 0 0, .iface 56 (.int .i64 (askE r))]) ∧ Below w.heap.size w w' := by
  have HC := Lib.hid (fun (W : World) (hW : Below w.heap.size w W) => checkAsk_any r vf vb W (hf.old hW) (hb.below hW))
  rw [errVk hok] at HC
  generalize askE r = k at *
  obtain ⟨af, cf, rfl, hf'⟩ := hf
  obtain ⟨ab, cb, rfl, hb'⟩ := hb.open
  unfold rqV at *
  have HS := Lib.hid (HeldQ.new w #[.string r.method, .string r.path, .string r.host, .slice af r.fields.length cf, .slice ab r.body.length cb] 25)
  clear hf' hb' hb hok
  generalize r.fields.length = lf at *
  generalize r.body.length = lb at *
  go_enter Tryz.func5, Tryz.ntmps5
  go_wp2_with (go_at_call 20; (with_reducible refine (HC.out _ HS.out.bel).mono ?_); rintro e w1 ⟨rfl, hB1⟩)
  go_ret2
  exact ⟨rfl, bstep HS.out.bel hB1⟩
set_option maxRecDepth 100000 in
set_option maxHeartbeats 8000000 in
theorem ask_ok (r : Rq) (vf vb : Value) (w : World) (hf : At encF w vf r.fields) (hb : BytesAt w vb r.body) (hok : askE r = 0) (hp : Pow10 w) :
    Calls Tryz.prog 5 #[rqV r vf vb] w fun e w' => ∃ v, e = .returned (.tuple #[v, .nilIface]) ∧ BytesAt w' v (askBytes r) ∧ Below w.heap.size w w' := by
  have HC := Lib.hid (fun (W : World) (hW : Below w.heap.size w W) => checkAsk_any r vf vb W (hf.old hW) (hb.below hW))
  rw [hok, errV0] at HC
  obtain ⟨s1, s2, s3, s4, s5⟩ := ask_right hok
  have HLN := Lib.hid (fun (W : World) (hW : Below w.heap.size w W) => lines_any vf r.fields W (hf.old hW) s4)
  have HBD := Lib.hid (fun (W : World) (hW : Below w.heap.size w W) => hb.below hW)
  have HIT := Lib.hid (fun (W : World) (hW : Below w.heap.size w W) => itoa_any r.body.length s5 W (hp.old hW))
  have hcat := ask_cat r
  have hhl := askHead_len hok
  have hls := linesS_size s4
  have hall : askBytes r = intsOf (askHead r ++ lenL r.body.length ++ [13, 10]) ++ r.body := rfl
  rw [hall]
  have hsz : (⟨(askHead r).toArray⟩ : ByteArray).size ≤ 40000 := by rw [size_mk]; exact hhl
  have hb8 : (intsOf (askHead r ++ lenL r.body.length ++ [13, 10])).length + r.body.length < 140737488355328 := by
    have := lenL_len s5
    rw [intsOf_len]
    simp only [List.length_append, List.length_cons, List.length_nil]; omega
  have HB8 := Lib.hid hb8
  have hds := dec_size s5
  obtain ⟨af, cf, rfl, hf'⟩ := hf
  obtain ⟨ab, cb, rfl, hb'⟩ := hb.open
  unfold rqV at *
  have HS := Lib.hid (HeldQ.new w #[.string r.method, .string r.path, .string r.host, .slice af r.fields.length cf, .slice ab r.body.length cb] 25)
  clear hf' hb' hb hok hall hb8
  have hlc := fun (h : r.body.length ≠ 0) => len_cat r.body.length h (askHead r)
  have hl0 := len_cat0 (askHead r)
  have HLC := Lib.hid hlc
  have HL0 := Lib.hid hl0
  have HCAT := Lib.hid hcat
  have hl1 := lenL_len s5
  clear hlc hl0 hcat
  generalize askHead r = hd at *
  obtain ⟨rm, rp, rh, rf, rb⟩ := r
  simp only at *
  generalize linesS rf = ls at *
  generalize hn : rf.length = lf at *
  obtain ⟨nb, hnb⟩ : ∃ n, rb.length = n := ⟨_, rfl⟩
  rw [hnb] at HS HLC HIT HC HB8 s5 hds hl1 HBD ⊢
  have HNB := Lib.hid hnb
  clear hnb hn s4
  go_enter Tryz.func5, Tryz.ntmps5
  go_wp2_with (go_at_call 20; (with_reducible refine (HC.out _ HS.out.bel).mono ?_); rintro e w1 ⟨rfl, hB1⟩; replace HS := Lib.hid (HS.out.step hB1); clear hB1)
  clear HC
  have g0 := HS.out.cell 0 (by simp)
  have g1 := HS.out.cell 1 (by simp)
  have g2 := HS.out.cell 2 (by simp)
  have g3 := HS.out.cell 3 (by simp)
  simp at g0 g1 g2 g3
  generalize hS1 : (⟨hd.toArray⟩ : ByteArray) = S1 at *
  have HS1 := Lib.hid hS1
  clear hS1
  go_cut [5] from 11 (fun s wx => s = .string S1 ∧ Below w1.heap.size w1 wx)
  case first =>
    have q0 : ∀ n : After w1, n.1.cell? ⟨w.heap.size, 0, none⟩ = some (.string rm) := fun n => n.cell g0
    have q1 : ∀ n : After w1, n.1.cell? ⟨w.heap.size, 1, none⟩ = some (.string rp) := fun n => n.cell g1
    have q2 : ∀ n : After w1, n.1.cell? ⟨w.heap.size, 2, none⟩ = some (.string rh) := fun n => n.cell g2
    have q3 : ∀ n : After w1, n.1.cell? ⟨w.heap.size, 3, none⟩ = some (.slice af lf cf) := fun n => n.cell g3
    have HLA : Hid (∀ n : After w1, Calls Tryz.prog 21 #[.slice af lf cf] n.1 fun e w' => e = .returned (.string ls) ∧ Below n.1.heap.size n.1 w') := (fun n => HLN.out n.1 (bstep HS.out.bel n.2))
    clear g0 g1 g2 g3
    have k0 : ¬ 9223372036854775807 < rm.size + 1 := by omega
    have k1 : ¬ 9223372036854775807 < rm.size + 1 + rp.size := by omega
    have k2 : ¬ 9223372036854775807 < rm.size + 1 + rp.size + 7 := by omega
    have k3 : ¬ 9223372036854775807 < rm.size + 1 + rp.size + 7 + 2 := by omega
    have k4 : ¬ 9223372036854775807 < rm.size + 1 + rp.size + 7 + 2 + 6 := by omega
    have k5 : ¬ 9223372036854775807 < rm.size + 1 + rp.size + 7 + 2 + 6 + rh.size := by omega
    have k6 : ¬ 9223372036854775807 < rm.size + 1 + rp.size + 7 + 2 + 6 + rh.size + 2 := by omega
    have k7 : ¬ 9223372036854775807 < rm.size + 1 + rp.size + 7 + 2 + 6 + rh.size + 2 + ls.size := by omega
    refine wp_region_after w1 (Below.refl _ _) (by kernel_rfl) (by kernel_rfl) ?_
    repeat (go_big_quiet_step (((go_at_call 21); refine After.call (HLA.out _))))
    refine wpQuiet_nil ?_
    rintro w2 ⟨n2, rfl⟩
    obtain ⟨w2, hB2⟩ := n2
    simp only
    clear q0 q1 q2 q3
    go_wp2
    go_meet
    exact ⟨congrArg _ HCAT.out, hB2⟩
  case rest =>
    obtain ⟨rfl, hB2⟩ := hcut
    replace HS := Lib.hid (HS.out.step hB2)
    clear hB2 g0 g1 g2 g3 HLN HCAT
    have g4 := HS.out.cell 4 (by simp)
    simp at g4
    by_cases h0 : nb = 0
    · subst h0
      have hf1 : ¬ 9223372036854775807 < S1.size + 2 := by omega
      obtain ⟨S3, hS3⟩ : ∃ S, (⟨(hd ++ lenL 0 ++ [13, 10]).toArray⟩ : ByteArray) = S := ⟨_, rfl⟩
      have hq := HL0.out
      rw [hS3] at hq
      have HS3 : Hid (S3.data.toList = hd ++ lenL 0 ++ [13, 10]) := (by rw [← hS3] : S3.data.toList = hd ++ lenL 0 ++ [13, 10])
      have HSZ : Hid (S3.size = (intsOf (hd ++ lenL 0 ++ [13, 10])).length) := (by rw [← hS3, size_mk, intsOf_len] : S3.size = (intsOf (hd ++ lenL 0 ++ [13, 10])).length)
      clear hS3 HLC HIT
      go_upto_region 7 with fail
      have hcz : S3.size ≤ 140737488355328 := by have := HSZ.out; have := HB8.out; omega
      obtain ⟨cap3, w4, hrun, hB4, hCv⟩ := convd_new S3 wc hcz
      have hwz := HS.out.bel.size
      replace HS := Lib.hid (HS.out.step hB4)
      have g5 := HS.out.cell 4 (by simp)
      simp at g5
      have HCV : Hid (Convd w4 w.heap.size wc.heap.size cap3 (intsOf (hd ++ lenL 0 ++ [13, 10]))) := (by
        rw [HS3.out] at hCv
        exact { hCv with bg := hwz })
      have HBY := Lib.hid (HBD.out w4 HS.out.bel)
      clear hCv hB4 hwz hcz hsz hds hl1
      go_wp2_with (at_builtin; refine wpList_append_conv rfl _ _ rfl w.heap.size wc.heap.size _ cap3 _ rfl HSZ.out HCV.out _ rb rfl HBY.out (by rw [HNB.out]; exact HB8.out) ?_; intro v2 w5 hat2 hB5)
      go_ret2
      exact ⟨v2, rfl, hat2, HS.out.bel.trans hB5⟩
    · have HLC1 := Lib.hid (HLC.out h0)
      have h1 : (0 : Int) < (nb : Int) := by omega
      obtain ⟨S3, hS3⟩ : ∃ S, (⟨(hd ++ lenL nb ++ [13, 10]).toArray⟩ : ByteArray) = S := ⟨_, rfl⟩
      have hq := HLC1.out
      rw [hS3] at hq
      have HS3 : Hid (S3.data.toList = hd ++ lenL nb ++ [13, 10]) := (by rw [← hS3] : S3.data.toList = hd ++ lenL nb ++ [13, 10])
      have HSZ : Hid (S3.size = (intsOf (hd ++ lenL nb ++ [13, 10])).length) := (by rw [← hS3, size_mk, intsOf_len] : S3.size = (intsOf (hd ++ lenL nb ++ [13, 10])).length)
      generalize decS nb = ds at *
      have hk1 : ¬ 9223372036854775807 < 8 + ds.size := by omega
      have hk2 : ¬ 9223372036854775807 < 8 + ds.size + 2 := by omega
      have hk3 : ¬ 9223372036854775807 < S1.size + (8 + ds.size + 2) := by omega
      have hk4 : ¬ 9223372036854775807 < S1.size + (8 + ds.size + 2) + 2 := by omega
      have HQ := Lib.hid hq
      clear hS3 HLC HLC1 h0 hq
      go_upto_region 7 with (go_at_call 22; (with_reducible refine (HIT.out _ HS.out.bel).mono ?_); rintro e w3 ⟨rfl, hB3⟩; replace HS := Lib.hid (HS.out.step hB3); clear hB3)
      have hq := HQ.out
      have hcz : S3.size ≤ 140737488355328 := by have := HSZ.out; have := HB8.out; omega
      obtain ⟨cap3, w4, hrun, hB4, hCv⟩ := convd_new S3 w3 hcz
      have hwz := HS.out.bel.size
      replace HS := Lib.hid (HS.out.step hB4)
      have g5 := HS.out.cell 4 (by simp)
      simp at g5
      have HCV : Hid (Convd w4 w.heap.size w3.heap.size cap3 (intsOf (hd ++ lenL nb ++ [13, 10]))) := (by
        rw [HS3.out] at hCv
        exact { hCv with bg := hwz })
      have HBY := Lib.hid (HBD.out w4 HS.out.bel)
      clear hCv hB4 hwz hcz hsz hds hl1
      go_wp2_with (at_builtin; refine wpList_append_conv rfl _ _ rfl w.heap.size w3.heap.size _ cap3 _ rfl HSZ.out HCV.out _ rb rfl HBY.out (by rw [HNB.out]; exact HB8.out) ?_; intro v2 w5 hat2 hB5)
      go_ret2
      exact ⟨v2, rfl, hat2, HS.out.bel.trans hB5⟩
end Go.Proofs.YtkohbbnnjakhjaaGreatDoor.LineM
