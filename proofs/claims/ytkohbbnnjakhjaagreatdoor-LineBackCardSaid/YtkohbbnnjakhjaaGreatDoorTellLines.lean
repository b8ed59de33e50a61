/-
  A reply as lines: package line's Tell and the reference's TellLines.
  Conditions: the reply is right.
-/
import Derived.Test.YtkohbbnnjakhjaaGreatDoorAskLines
import Derived.Test.YtkohbbnnjakhjaaGreatDoorChunkEnc
namespace Go.Proofs.YtkohbbnnjakhjaaGreatDoor.LineM
open Go.RowKit Go.Shelf RowsK LineC FieldRows BA AfterL ChunkC ChunkI HexC
set_option linter.unusedVariables false
set_option linter.unusedSimpArgs false

def tellHead (r : Rp) : List UInt8 := [69, 68, 71, 69, 47, 49, 32] ++ Lib.decDigits r.code.toNat ++ [13, 10] ++ linesL r.fields
def lenP (n : Nat) : List UInt8 := [108, 101, 110, 103, 116, 104, 58, 32] ++ Lib.decDigits n ++ [13, 10, 13, 10]
def codP : List UInt8 := [99, 111, 100, 105, 110, 103, 58, 32, 99, 104, 117, 110, 107, 101, 100, 13, 10, 13, 10]
/-- A body in pieces. -/
def EN (l : List Int) (sz : Nat) : List Int := encAll (upto (cut l sz) (pieces l.length sz)) ++ tail5
/-- The lines of a reply, its body behind them; pieces of so many bytes, if it is not 0. -/
def tellBytes (r : Rp) (size : Nat) : List Int := if size = 0 then intsOf (tellHead r ++ lenP r.body.length) ++ r.body else intsOf (tellHead r ++ codP) ++ EN r.body (min size 8000)
theorem tell_right {r : Rp} {size : Int} (h : tellE r size = 0) : Small r.fields ∧ r.body.length ≤ 8000 ∧ (100 ≤ r.code ∧ r.code ≤ 599) ∧ 0 ≤ size := by
  unfold tellE at h
  split at h
  · cases h
  · rename_i h1
    split at h
    · cases h
    · rename_i h2
      unfold fullB at h1
      simp only [Bool.or_eq_true, decide_eq_true_eq, not_or] at h1 h2
      exact ⟨small_of h (by omega), by omega, ⟨by omega, by omega⟩, by omega⟩
theorem tellHead_len {r : Rp} {size : Int} (h : tellE r size = 0) : (tellHead r).length ≤ 33000 := by
  obtain ⟨h4, _, h6, _⟩ := tell_right h
  have h5 := linesS_size h4
  unfold linesS at h5
  rw [size_mk] at h5
  have := dec_len 3 r.code.toNat (by omega)
  unfold tellHead
  simp only [List.length_append, List.length_cons, List.length_nil]; omega
theorem tell_cat (fs : List Fld) (n : Nat) : (⟨#[69, 68, 71, 69, 47, 49, 32]⟩ : ByteArray) ++ decS n ++ ⟨#[13, 10]⟩ ++ linesS fs = (⟨([69, 68, 71, 69, 47, 49, 32] ++ Lib.decDigits n ++ [13, 10] ++ linesL fs).toArray⟩ : ByteArray) := by
  apply ByteArray.ext
  simp [decS, linesS, List.append_assoc]
theorem lenP_cat (n : Nat) (S : List UInt8) : (⟨S.toArray⟩ : ByteArray) ++ (⟨#[108, 101, 110, 103, 116, 104, 58, 32]⟩ ++ decS n ++ ⟨#[13, 10]⟩) ++ ⟨#[13, 10]⟩ = (⟨(S ++ lenP n).toArray⟩ : ByteArray) := by
  apply ByteArray.ext
  simp [lenP, decS, List.append_assoc]
theorem rlenP_cat (n : Nat) (S : List UInt8) : (⟨S.toArray⟩ : ByteArray) ++ ⟨#[108, 101, 110, 103, 116, 104, 58, 32]⟩ ++ decS n ++ ⟨#[13, 10, 13, 10]⟩ = (⟨(S ++ lenP n).toArray⟩ : ByteArray) := by
  apply ByteArray.ext
  simp [lenP, decS, List.append_assoc]
theorem codP_cat (S : List UInt8) : (⟨S.toArray⟩ : ByteArray) ++ ⟨#[99, 111, 100, 105, 110, 103, 58, 32, 99, 104, 117, 110, 107, 101, 100]⟩ ++ ⟨#[13, 10]⟩ ++ ⟨#[13, 10]⟩ = (⟨(S ++ codP).toArray⟩ : ByteArray) := by
  apply ByteArray.ext
  simp [codP, List.append_assoc]
theorem rcodP_cat (S : List UInt8) : (⟨S.toArray⟩ : ByteArray) ++ ⟨#[99, 111, 100, 105, 110, 103, 58, 32, 99, 104, 117, 110, 107, 101, 100, 13, 10, 13, 10]⟩ = (⟨(S ++ codP).toArray⟩ : ByteArray) := by
  apply ByteArray.ext
  simp [codP]
theorem lenP_len {n : Nat} (h : n ≤ 8000) : (lenP n).length ≤ 16 := by
  unfold lenP
  have := dec_len 3 n (by omega)
  simp only [List.length_append, List.length_cons, List.length_nil]; omega
set_option maxRecDepth 100000 in
set_option maxHeartbeats 8000000 in
theorem tell_bad (r : Rp) (vf vb : Value) (size : Int) (w : World) (hf : At encF w vf r.fields) (hb : BytesAt w vb r.body) (hok : tellE r size ≠ 0) :
    Calls Tryz.prog 8 #[rpV r vf vb, .int .i64 size] w fun e w' => e = .returned (.tuple #[.slice none 0 0, .iface 56 (.int .i64 (tellE r size))]) ∧ Below w.heap.size w w' := by
  have HC := Lib.hid (fun (W : World) (hW : Below w.heap.size w W) => checkTell_any r vf vb size W (hf.old hW) (hb.below hW))
  rw [errVk hok] at HC
  generalize tellE r size = k at *
  obtain ⟨af, cf, rfl, hf'⟩ := hf
  obtain ⟨ab, cb, rfl, hb'⟩ := hb.open
  unfold rpV at *
  have HS := Lib.hid (HeldQ.new w #[.int .i64 r.code, .slice af r.fields.length cf, .slice ab r.body.length cb] 27)
  clear hf' hb' hb hok
  generalize r.fields.length = lf at *
  generalize r.body.length = lb at *
  go_enter Tryz.func8, Tryz.ntmps8
  go_wp2_with (go_at_call 25; (with_reducible refine (HC.out _ HS.out.bel).mono ?_); rintro e w1 ⟨rfl, hB1⟩)
  go_ret2
  exact ⟨rfl, bstep HS.out.bel hB1⟩
theorem piecesLe (len sz : Nat) (h : 1 ≤ sz) : pieces len sz ≤ len := by
  rcases Nat.lt_or_ge len (pieces len sz) with hl | hl
  · have := (lt_pieces h).1 hl
    have h2 : len * 1 ≤ len * sz := Nat.mul_le_mul_left _ h
    omega
  · exact hl
theorem EN_len (l : List Int) (sz : Nat) (hsz : 1 ≤ sz) (h : l.length ≤ 8000) : (EN l sz).length ≤ 64100000 := by
  unfold EN
  have h1 := encAll_len (upto (cut l sz) (pieces l.length sz)) (fun x hx => by
    unfold upto at hx
    obtain ⟨k, _, rfl⟩ := List.mem_map.1 hx
    rw [cut_len]; omega)
  have h2 : (upto (cut l sz) (pieces l.length sz)).length ≤ 8000 := by
    rw [upto_length]
    have := piecesLe l.length sz hsz
    omega
  have h3 : tail5.length = 5 := rfl
  rw [List.length_append]
  have : (upto (cut l sz) (pieces l.length sz)).length * 8008 ≤ 8000 * 8008 := Nat.mul_le_mul_right _ h2
  omega
theorem encode_piece (l : List Int) (v : Value) (sz : Nat) (w : World) (hb : BytesAt w v l) (h : 1 ≤ sz ∧ sz ≤ 8000) (hl : l.length ≤ 8000) (hT : Tab16 w) :
    Calls Tryz.prog 26 #[v, .int .i64 sz] w fun e w' => ∃ g c, e = .returned (.tuple #[.slice g (EN l sz).length c, .nilIface]) ∧ BytesAt w' (.slice g (EN l sz).length c) (EN l sz) ∧ Below w.heap.size w w' := by
  obtain ⟨a, cap, rfl, _⟩ := hb.open
  refine (encode_ok a cap sz l w hb h hl hT).mono ?_
  rintro e w' ⟨v, rfl, ho, hB⟩
  have hat := BytesAt.of_own ho
  obtain ⟨a2, c2, rfl, _⟩ := hat.open
  exact ⟨a2, c2, rfl, hat, hB⟩
set_option maxRecDepth 100000 in
set_option maxHeartbeats 8000000 in
theorem tell_ok (r : Rp) (vf vb : Value) (size : Nat) (w : World) (hf : At encF w vf r.fields) (hb : BytesAt w vb r.body) (hok : tellE r size = 0) (hp : Pow10 w) (hT : Tab16 w) :
    Calls Tryz.prog 8 #[rpV r vf vb, .int .i64 size] w fun e w' => ∃ v, e = .returned (.tuple #[v, .nilIface]) ∧ BytesAt w' v (tellBytes r size) ∧ Below w.heap.size w w' := by
  have HC := Lib.hid (fun (W : World) (hW : Below w.heap.size w W) => checkTell_any r vf vb size W (hf.old hW) (hb.below hW))
  rw [hok, errV0] at HC
  obtain ⟨s4, s5, s6, s7⟩ := tell_right hok
  have HLN := Lib.hid (fun (W : World) (hW : Below w.heap.size w W) => lines_any vf r.fields W (hf.old hW) s4)
  have HBD := Lib.hid (fun (W : World) (hW : Below w.heap.size w W) => hb.below hW)
  have HIT := Lib.hid (fun (W : World) (hW : Below w.heap.size w W) => itoa_any r.body.length s5 W (hp.old hW))
  have HIC := Lib.hid (fun (W : World) (hW : Below w.heap.size w W) => itoa_any r.code.toNat (by omega) W (hp.old hW))
  have hcc : ((r.code.toNat : Nat) : Int) = r.code := by omega
  rw [hcc] at HIC
  have hcat := tell_cat r.fields r.code.toNat
  have hhl := tellHead_len hok
  have hls := linesS_size s4
  have hall : tellBytes r size = if size = 0 then intsOf (tellHead r ++ lenP r.body.length) ++ r.body else intsOf (tellHead r ++ codP) ++ EN r.body (min size 8000) := rfl
  rw [hall]
  have hsz : (⟨(tellHead r).toArray⟩ : ByteArray).size ≤ 40000 := by rw [size_mk]; omega
  have hth : tellHead r = [69, 68, 71, 69, 47, 49, 32] ++ Lib.decDigits r.code.toNat ++ [13, 10] ++ linesL r.fields := rfl
  rw [← hth] at hcat
  have hdc := dec_size (n := r.code.toNat) (by omega)
  have hds := dec_size s5
  have HENC := Lib.hid (fun (W : World) (hW : Below w.heap.size w W) (h1 : size ≠ 0) => encode_piece r.body vb (min size 8000) W (hb.below hW) (by omega) s5 (hT.below hW hT.2))
  obtain ⟨af, cf, rfl, hf'⟩ := hf
  obtain ⟨ab, cb, rfl, hb'⟩ := hb.open
  unfold rpV at *
  have HS := Lib.hid (HeldQ.new w #[.int .i64 r.code, .slice af r.fields.length cf, .slice ab r.body.length cb] 27)
  have hlp := lenP_len s5
  have HLC := Lib.hid (lenP_cat r.body.length (tellHead r))
  have HCC := Lib.hid (codP_cat (tellHead r))
  have HCAT := Lib.hid hcat
  clear hf' hb' hb hok hall hcat hth hcc
  generalize tellHead r = hd at *
  generalize decS r.code.toNat = dc at *
  obtain ⟨rc, rf, rb⟩ := r
  simp only at *
  generalize linesS rf = ls at *
  generalize hn : rf.length = lf at *
  obtain ⟨nb, hnb⟩ : ∃ n, rb.length = n := ⟨_, rfl⟩
  rw [hnb] at HS HLC HIT HC s5 hds HBD HENC hlp ⊢
  have HNB := Lib.hid hnb
  clear hnb hn s4 s6 s7
  go_enter Tryz.func8, Tryz.ntmps8
  go_wp2_with (go_at_call 25; (with_reducible refine (HC.out _ HS.out.bel).mono ?_); rintro e w1 ⟨rfl, hB1⟩; replace HS := Lib.hid (HS.out.step hB1); clear hB1)
  clear HC
  have g0 := HS.out.cell 0 (by simp)
  have g1 := HS.out.cell 1 (by simp)
  simp at g0 g1
  generalize hS1 : (⟨hd.toArray⟩ : ByteArray) = S1 at *
  have HS1 := Lib.hid hS1
  clear hS1
  go_cut [7] from 13 (fun s wx => s = .string S1 ∧ Below w1.heap.size w1 wx)
  case first =>
    have q0 : ∀ n : After w1, n.1.cell? ⟨w.heap.size, 0, none⟩ = some (.int .i64 rc) := fun n => n.cell g0
    have q1 : ∀ n : After w1, n.1.cell? ⟨w.heap.size, 1, none⟩ = some (.slice af lf cf) := fun n => n.cell g1
    have HLA : Hid (∀ n : After w1, Calls Tryz.prog 21 #[.slice af lf cf] n.1 fun e w' => e = .returned (.string ls) ∧ Below n.1.heap.size n.1 w') := (fun n => HLN.out n.1 (bstep HS.out.bel n.2))
    have HIA : Hid (∀ n : After w1, Calls Tryz.prog 22 #[.int .i64 rc] n.1 fun e w' => e = .returned (.string dc) ∧ Below n.1.heap.size n.1 w') := (fun n => HIC.out n.1 (bstep HS.out.bel n.2))
    clear g0 g1
    have k0 : ¬ 9223372036854775807 < 7 + dc.size := by omega
    have k1 : ¬ 9223372036854775807 < 7 + dc.size + 2 := by omega
    have k2 : ¬ 9223372036854775807 < 7 + dc.size + 2 + ls.size := by omega
    refine wp_region_after w1 (Below.refl _ _) (by kernel_rfl) (by kernel_rfl) ?_
    repeat (go_big_quiet_step ((first | (go_at_call 21; refine After.call (HLA.out _)) | (go_at_call 22; refine After.call (HIA.out _)))))
    refine wpQuiet_nil ?_
    rintro w2 ⟨n2, rfl⟩
    obtain ⟨w2, hB2⟩ := n2
    simp only
    clear q0 q1
    go_wp2
    go_meet
    exact ⟨congrArg _ HCAT.out, hB2⟩
  case rest =>
    obtain ⟨rfl, hB2⟩ := hcut
    replace HS := Lib.hid (HS.out.step hB2)
    clear hB2 g0 g1 HLN HCAT HIC
    have g2 := HS.out.cell 2 (by simp)
    simp at g2
    by_cases h0 : size = 0
    · subst h0
      obtain ⟨S3, hS3⟩ : ∃ S, (⟨(hd ++ lenP nb).toArray⟩ : ByteArray) = S := ⟨_, rfl⟩
      have hq := HLC.out
      rw [hS3] at hq
      have HS3 : Hid (S3.data.toList = hd ++ lenP nb) := (by rw [← hS3] : S3.data.toList = hd ++ lenP nb)
      have HSZ : Hid (S3.size = (intsOf (hd ++ lenP nb)).length) := (by rw [← hS3, size_mk, intsOf_len] : S3.size = (intsOf (hd ++ lenP nb)).length)
      have HB8 : Hid ((intsOf (hd ++ lenP nb)).length + rb.length < 140737488355328) := (by
        rw [intsOf_len, HNB.out]
        simp only [List.length_append]; omega : (intsOf (hd ++ lenP nb)).length + rb.length < 140737488355328)
      generalize decS nb = ds at *
      have hk1 : ¬ 9223372036854775807 < 8 + ds.size := by omega
      have hk2 : ¬ 9223372036854775807 < 8 + ds.size + 2 := by omega
      have hk3 : ¬ 9223372036854775807 < S1.size + (8 + ds.size + 2) := by omega
      have hk4 : ¬ 9223372036854775807 < S1.size + (8 + ds.size + 2) + 2 := by omega
      have HQ := Lib.hid hq
      clear hS3 HLC HCC hq HENC hlp
      go_upto_region 7 with (go_at_call 22; (with_reducible refine (HIT.out _ HS.out.bel).mono ?_); rintro e w3 ⟨rfl, hB3⟩; replace HS := Lib.hid (HS.out.step hB3); clear hB3)
      have hq := HQ.out
      have hcz : S3.size ≤ 140737488355328 := by have := HSZ.out; have := HB8.out; omega
      obtain ⟨cap3, w4, hrun, hB4, hCv⟩ := convd_new S3 w3 hcz
      have hwz := HS.out.bel.size
      replace HS := Lib.hid (HS.out.step hB4)
      have g5 := HS.out.cell 2 (by simp)
      simp at g5
      have HCV : Hid (Convd w4 w.heap.size w3.heap.size cap3 (intsOf (hd ++ lenP nb))) := (by
        rw [HS3.out] at hCv
        exact { hCv with bg := hwz })
      have HBY := Lib.hid (HBD.out w4 HS.out.bel)
      clear hCv hB4 hwz hcz hsz
      go_wp2_with (at_builtin; refine wpList_append_conv rfl _ _ rfl w.heap.size w3.heap.size _ cap3 _ rfl HSZ.out HCV.out _ rb rfl HBY.out HB8.out ?_; intro v2 w5 hat2 hB5)
      go_ret2
      exact ⟨v2, rfl, (by first | exact hat2 | (rw [if_pos rfl]; exact hat2)), HS.out.bel.trans hB5⟩
    · have HH0 := Lib.hid h0
      obtain ⟨sz, hszz⟩ : ∃ s, min size 8000 = s := ⟨_, rfl⟩
      rw [hszz] at HENC
      have HMN := Lib.hid hszz
      have hel := EN_len rb sz (by omega) (by rw [HNB.out]; exact s5)
      have hmi : min (size : Int) 8000 = (sz : Int) := by omega
      obtain ⟨S3, hS3⟩ : ∃ S, (⟨(hd ++ codP).toArray⟩ : ByteArray) = S := ⟨_, rfl⟩
      have hq := HCC.out
      rw [hS3] at hq
      have HS3 : Hid (S3.data.toList = hd ++ codP) := (by rw [← hS3] : S3.data.toList = hd ++ codP)
      have HSZ : Hid (S3.size = (intsOf (hd ++ codP)).length) := (by rw [← hS3, size_mk, intsOf_len] : S3.size = (intsOf (hd ++ codP)).length)
      have HB8 : Hid ((intsOf (hd ++ codP)).length + (EN rb sz).length < 140737488355328) := (by
        rw [intsOf_len]
        have : codP.length = 19 := rfl
        simp only [List.length_append]; omega : (intsOf (hd ++ codP)).length + (EN rb sz).length < 140737488355328)
      have HEN := Lib.hid (fun W hW => HENC.out W hW h0)
      have h1 : ((size : Int) == 0) = false := beq_eq_false_iff_ne.2 (by omega)
      have hk1 : ¬ 9223372036854775807 < S1.size + 15 := by omega
      have hk2 : ¬ 9223372036854775807 < S1.size + 15 + 2 := by omega
      have hk3 : ¬ 9223372036854775807 < S1.size + 15 + 2 + 2 := by omega
      have HQ := Lib.hid hq
      clear hS3 HLC HCC hq HENC hel hlp HIT h0 hszz
      go_upto_region 11 with (go_at_call 26; (with_reducible refine (HEN.out _ HS.out.bel).mono ?_); rintro e w3 ⟨g3, c3, rfl, hatE, hB3⟩; replace HS := Lib.hid (HS.out.step hB3); have HAT3 := Lib.hid hatE; clear hB3 hatE)
      have hq := HQ.out
      have hcz : S3.size ≤ 140737488355328 := by have := HSZ.out; have := HB8.out; omega
      obtain ⟨cap3, w4, hrun, hB4, hCv⟩ := convd_new S3 w3 hcz
      have hwz := HS.out.bel.size
      replace HS := Lib.hid (HS.out.step hB4)
      have HAT4 := Lib.hid (HAT3.out.below hB4)
      have HCV : Hid (Convd w4 w.heap.size w3.heap.size cap3 (intsOf (hd ++ codP))) := (by
        rw [HS3.out] at hCv
        exact { hCv with bg := hwz })
      have HBY := Lib.hid (HAT4.out)
      clear hCv hB4 hwz hcz hsz
      go_wp2_with (at_builtin; refine wpList_append_conv rfl _ _ rfl w.heap.size w3.heap.size _ cap3 _ rfl HSZ.out HCV.out _ (EN rb _) rfl HBY.out HB8.out ?_; intro v2 w5 hat2 hB5)
      go_ret2
      exact ⟨v2, rfl, (by first | exact hat2 | (rw [HMN.out]; exact hat2) | (rw [if_neg HH0.out, HMN.out]; exact hat2)), HS.out.bel.trans hB5⟩
end Go.Proofs.YtkohbbnnjakhjaaGreatDoor.LineM
