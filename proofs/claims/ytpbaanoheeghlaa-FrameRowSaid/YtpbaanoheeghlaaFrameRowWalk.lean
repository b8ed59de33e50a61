/-
  The walk of the law FrameRow: for every list of frames it returns true and writes nothing that was there.
  Conditions: none.
-/
import Derived.Test.YtpbaanoheeghlaaFramesArg
import Derived.StillTailTactics
import Derived.Deep.CutBlock
import Derived.Lib.Hide
namespace Go.Proofs.Ytpbaanoheeghlaa.WalkFrameRow
open Go.RowKit BA WireBig SlicesB FrameC Args
set_option linter.unusedVariables false
set_option linter.unusedSimpArgs false

def good (f : Fr) : Prop := f.inRange ∧ f.body.length ≤ 1024
def allB (l : List Fr) : List Int := (l.map Fr.bytes).flatten
theorem bytes_len (f : Fr) : f.bytes.length = f.body.length + 9 := by
  simp only [Fr.bytes, List.length_append, bigL_len _ 3 (by omega), bigL_len _ 4 (by omega), List.length_cons, List.length_nil]
  simp only [show (3 : Int).toNat = 3 from rfl, show (4 : Int).toNat = 4 from rfl]; omega
theorem allB_snoc (l : List Fr) (k : Nat) (h : k < l.length) : allB (l.take (k + 1)) = allB (l.take k) ++ l[k].bytes := by
  rw [List.take_succ_eq_append_getElem h]; simp only [allB, List.map_append, List.map_cons, List.map_nil, List.flatten_append, List.flatten_cons, List.flatten_nil, List.append_nil]
theorem allB_cons (l : List Fr) (k : Nat) (h : k < l.length) : allB (l.drop k) = l[k].bytes ++ allB (l.drop (k + 1)) := by
  rw [List.drop_eq_getElem_cons h]; rfl
theorem allB_len (l : List Fr) (h : ∀ f ∈ l, good f) : (allB l).length ≤ 1033 * l.length := by
  induction l with
  | nil => simp [allB]
  | cons f l ih =>
    have e : allB (f :: l) = f.bytes ++ allB l := rfl
    have := (h f (by simp)).2
    have := ih (fun g hg => h g (by simp [hg]))
    rw [e, List.length_append, bytes_len, List.length_cons]; omega
theorem good_bytes (f : Fr) (h : good f) (hb : ByteL f.body) : ByteL f.bytes := by
  obtain ⟨⟨h1, h2, h3⟩, h4⟩ := h
  intro z hz
  simp only [Fr.bytes, List.mem_append] at hz
  rcases hz with hz | hz | hz | hz
  · exact bigL_bd _ 3 (by omega) (by omega) (by simp [most]; omega) z hz
  · simp only [List.mem_cons, List.not_mem_nil, or_false] at hz
    rcases hz with rfl | rfl
    · exact h1
    · exact h2
  · exact bigL_bd _ 4 (by omega) h3.1 (by simp [most]; exact h3.2) z hz
  · exact hb z hz
theorem allB_bytes (l : List Fr) (h : ∀ f ∈ l, good f) (hb : ∀ f ∈ l, ByteL f.body) : ByteL (allB l) := by
  induction l with
  | nil => intro z hz; simp [allB] at hz
  | cons f l ih =>
    have e : allB (f :: l) = f.bytes ++ allB l := rfl
    intro z hz
    rw [e, List.mem_append] at hz
    rcases hz with hz | hz
    · exact good_bytes f (h f (by simp)) (hb f (by simp)) z hz
    · exact ih (fun g hg => h g (by simp [hg])) (fun g hg => hb g (by simp [hg])) z hz
theorem num3 (n : Int) (r : List Int) : numL ((bigL n 3 ++ r).take 3) = n / 65536 * 65536 + n / 256 % 256 * 256 + n % 256 := by
  simp [bigL, numL]; omega
theorem num4 (n : Int) : numL ((bigL n 4)) = n / 16777216 * 16777216 + n / 65536 % 256 * 65536 + n / 256 % 256 * 256 + n % 256 := by
  simp [bigL, numL]; omega
/-- What is read of a frame that was written, whatever stands behind it. -/
theorem read_back (f : Fr) (h : good f) (r : List Int) : rdErr (f.bytes ++ r) = 0 ∧ rdFr (f.bytes ++ r) = f ∧ numL ((f.bytes ++ r).take 3) = f.body.length := by
  obtain ⟨⟨h1, h2, h3⟩, h4⟩ := h
  obtain ⟨k, fl, st, body⟩ := f
  simp only at h1 h2 h3 h4
  have e3 : numL (((Fr.mk k fl st body).bytes ++ r).take 3) = body.length := by
    simp only [Fr.bytes, List.append_assoc]
    rw [num3]; omega
  have hb3 : bigL (body.length : Int) 3 = [(body.length : Int) / 65536, (body.length : Int) / 256 % 256, (body.length : Int) % 256] := rfl
  have hb4 : bigL st 4 = [st / 16777216, st / 65536 % 256, st / 256 % 256, st % 256] := rfl
  have e4 : numL ((((Fr.mk k fl st body).bytes ++ r).drop 5).take 4) = st := by
    have : ((((Fr.mk k fl st body).bytes ++ r).drop 5).take 4) = bigL st 4 := by
      simp only [Fr.bytes, hb3, hb4, List.cons_append, List.nil_append, List.drop_succ_cons, List.drop_zero, List.take_succ_cons, List.take_zero]
    rw [this, num4]; omega
  have hlen : ((Fr.mk k fl st body).bytes ++ r).length = body.length + 9 + r.length := by rw [List.length_append, bytes_len]
  refine ⟨?_, ?_, e3⟩
  · unfold rdErr
    rw [e3, e4, hlen, if_neg (by omega), if_neg (by omega), if_neg (by omega), if_neg (by omega)]
  · unfold rdFr
    rw [e3, e4, Int.toNat_natCast]
    have g3 : ((Fr.mk k fl st body).bytes ++ r).getD 3 0 = k := by simp [Fr.bytes, hb3]
    have g4 : ((Fr.mk k fl st body).bytes ++ r).getD 4 0 = fl := by simp [Fr.bytes, hb3]
    have g9 : (((Fr.mk k fl st body).bytes ++ r).drop 9).take body.length = body := by
      have : ((Fr.mk k fl st body).bytes ++ r).drop 9 = body ++ r := by
        simp only [Fr.bytes, hb3, hb4, List.cons_append, List.nil_append, List.drop_succ_cons, List.drop_zero]
      rw [this, List.take_left]
    rw [g3, g4, g9]

set_option maxRecDepth 100000 in
set_option maxHeartbeats 8000000 in
theorem walk (v0 : Value) (fs : List Fr) (w : World) (w0 : Args.FramesAt w v0 fs) :
    Calls Try.prog 10 #[v0] w fun e w' => e = .returned (.bool true) ∧ Below w.heap.size w w' := by
  obtain ⟨a0, cap, rfl, hcap1, hcap2, _, hel⟩ := w0
  have HEL := Lib.hid hel
  have hE0 := encode_any ⟨4, 0, 0, []⟩ (.slice none 0 0) w ⟨none, 0, rfl, by simp [BytesL.valB], by decide, by simp, by simp [BytesL.valB]⟩
  have HE0 := Lib.hid hE0
  clear hel hE0
  go_enter Try.func10, Try.ntmps10
  go_wp2_with fail
  refine HE0.out.mono ?_
  rintro e w1 ⟨hB1, h⟩
  rcases h with ⟨h, _⟩ | ⟨_, h, _⟩ | ⟨_, _, v1, rfl, hown1⟩
  · exact absurd (by decide) h
  · exact absurd h (by decide)
  · obtain ⟨a1, c1, rfl, _⟩ := hown1.slice
    rw [bytes_len] at *
    have HB1 := Lib.hid hB1
    clear hB1 hown1
    go_wp2_with fail
    go_loopw [5, 6] (fun b i wr => ∃ k : Nat, k ≤ fs.length ∧ k ≤ 30 ∧ i = .int .i64 k ∧ Below w.heap.size w wr ∧ BytesL.Own wr w.heap.size b (allB (fs.take k)) ∧ Hid (∀ f ∈ fs.take k, good f)) (fun _ i _ => 30 - (intOf i).toNat)
    case atStart => exact ⟨0, by omega, by omega, rfl, HB1.out, BytesL.Own.nil _ _, by intro f hf; simp at hf⟩
    case round =>
      obtain ⟨k, hk1, hk2, rfl, hB, hown, HG⟩ := hrel
      have HO := Lib.hid hown
      have HB := Lib.hid hB
      have hszr := hB.size
      clear hown
      by_cases hin : k < fs.length ∧ k < 30
      · obtain ⟨h1, h2⟩ := hin
        obtain ⟨b, off, vb, rfl, hb, c0, c1, c2, c3, hbody, hok⟩ := HEL.out k h1
        replace c0 := (hB.cell (p := ⟨b, off + k * 4, none⟩) hb).trans c0
        replace c1 := (hB.cell (p := ⟨b, off + k * 4 + 1, none⟩) hb).trans c1
        replace c2 := (hB.cell (p := ⟨b, off + k * 4 + 2, none⟩) hb).trans c2
        replace c3 := (hB.cell (p := ⟨b, off + k * 4 + 3, none⟩) hb).trans c3
        have HS := Lib.hid (allB_snoc fs k h1)
        have HT : Hid (fs.take (k + 1) = fs.take k ++ [fs[k]]) := List.take_succ_eq_append_getElem h1
        have hvb : BytesAt wr vb fs[k].body := hbody.below hB
        have HVB := Lib.hid hvb
        have HBK := Lib.hid hok.2.2.2
        have HE := Lib.hid (encode_any fs[k] vb wr hvb)
        obtain ⟨av, cv, rfl, _⟩ := hvb.open
        have hlen : (allB (fs.take k)).length ≤ 30990 := by
          have := allB_len (fs.take k) HG.out
          have h3 : (fs.take k).length ≤ 30 := by rw [List.length_take]; omega
          omega
        have HLEN := Lib.hid hlen
        clear hbody hok hB hvb hlen
        generalize hf : fs[k] = f at *
        have HF := Lib.hid hf
        clear hf
        simp only [Fr.val] at HE
        go_wp2_with fail
        refine HE.out.mono ?_
        rintro e w2 ⟨hB2, (⟨_, rfl⟩ | ⟨_, _, rfl⟩ | ⟨hr, hl, vx, rfl, hx⟩)⟩
        · have HBZ := Lib.hid (HB.out.trans (hB2.mono hszr))
          clear hB2
          go_wp2
          go_ret
          exact ⟨rfl, HBZ.out⟩
        · have HBZ := Lib.hid (HB.out.trans (hB2.mono hszr))
          clear hB2
          go_wp2
          go_ret
          exact ⟨rfl, HBZ.out⟩
        · have HBZ := Lib.hid (HB.out.trans (hB2.mono hszr))
          have HO2 := Lib.hid (BytesL.Own.below HO.out hB2)
          have hsz2 := hB2.size
          have HX := Lib.hid (BytesAt.of_own hx)
          have hxl : f.bytes.length ≤ 1033 := by rw [bytes_len]; omega
          have HGF : Hid (good f) := ⟨hr, hl⟩
          obtain ⟨ax, cx, rfl, _⟩ := hx.slice
          clear hB2 hx
          have hlt : (allB (fs.take k)).length + f.bytes.length < 140737488355328 := by have := HLEN.out; omega
          go_wp2_with (at_builtin; refine wpList_append_bytes rfl _ _ rfl w.heap.size _ _ rfl HO2.out _ _ rfl HX.out hlt (by omega) ?_; intro v2 w3 hown3 hB3 hg3 hat3; have HO3 := Lib.hid hown3; have HB3 := Lib.hid hB3; clear hg3 hat3 hown3 hB3)
          go_roundw
          case rel => exact ⟨k + 1, by omega, by omega, by go_num, HBZ.out.trans HB3.out, by rw [HS.out]; exact HO3.out, by
            intro g hg
            rw [HT.out] at hg
            rcases List.mem_append.1 hg with hg | hg
            · exact HG.out g hg
            · rw [List.mem_singleton.1 hg]; exact HGF.out⟩
          case measure => simp [intOf]; omega
      · have hgl : (fs.take k).length = k := by rw [List.length_take]; omega
        have HGL := Lib.hid hgl
        have HOK : Hid (∀ f ∈ fs.take k, FrOk f) := fun f hf => by
          obtain ⟨i, hi, rfl⟩ := List.mem_iff_getElem.1 (List.mem_of_mem_take hf)
          obtain ⟨_, _, _, _, _, _, _, _, _, _, h⟩ := HEL.out i hi
          exact h
        have HGE : Hid (∀ j (hj : j < (fs.take k).length) (hj2 : j < fs.length), (fs.take k)[j] = fs[j]) := fun j hj hj2 => List.getElem_take
        obtain ⟨ab, cb, rfl, _⟩ := HO.out.slice
        have HBA := Lib.hid (BytesAt.of_own HO.out)
        have hex : k = fs.length ∨ k = 30 := by omega
        clear hgl hB
        generalize hgs : fs.take k = gs at *
        clear hgs
        have h30 : (k < fs.length ∧ 30 ≤ k) ∨ ¬ k < fs.length := by omega
        clear hex hin
        rcases h30 with ⟨hlt, h30⟩ | hlt
        all_goals
          obtain ⟨wo, rfl⟩ : ∃ wo : World, wo = wr := ⟨_, rfl⟩
          go_wp2_with fail
          go_loopw [5, 9] (fun b i wr => ∃ j : Nat, j ≤ k ∧ i = .int .i64 j ∧ Below w.heap.size w wr ∧ BytesAt wr b (allB (gs.drop j))) (fun _ i _ => 30 - (intOf i).toNat)
          case atStart => exact ⟨0, by omega, rfl, HB.out, by simpa using HBA.out⟩
          case round =>
            obtain ⟨j, hj, rfl, hB2, hbs⟩ := hrel
            have HBA2 := Lib.hid hbs
            have HB2 := Lib.hid hB2
            have hszj := hB2.size
            by_cases hjk : j < k
            · have h1 : j < fs.length := by omega
              have h2 : j < 30 := by omega
              obtain ⟨b, off, vb, rfl, hb, c0, c1, c2, c3, hbody, hok⟩ := HEL.out j h1
              have hjl : j < gs.length := by rw [HGL.out]; exact hjk
              have hg := HGE.out j hjl h1
              have hgood : good fs[j] := by rw [← hg]; exact HG.out _ (List.getElem_mem hjl)
              have hcons := allB_cons gs j hjl
              rw [hg] at hcons
              have hrb := read_back fs[j] hgood (allB (gs.drop (j + 1)))
              rw [← hcons] at hrb
              have hall : ByteL (allB (gs.drop j)) := allB_bytes _ (fun f hf => HG.out f (List.mem_of_mem_drop hf)) (fun f hf => (HOK.out f (List.mem_of_mem_drop hf)).2.2.2)
              have hallen : (allB (gs.drop j)).length ≤ 30990 := by
                have := allB_len (gs.drop j) (fun f hf => HG.out f (List.mem_of_mem_drop hf))
                have h3 : (gs.drop j).length ≤ 30 := by rw [List.length_drop, HGL.out]; omega
                omega
              have hrd := FrameC.read_any _ _ wr hbs hall (by omega)
              rw [hrb.1, hrb.2.1, hrb.2.2] at hrd
              have hrd2 : Hid (Calls Try.prog 32 #[_] wr fun e w' => Below wr.heap.size wr w' ∧ ∃ vb, e = .returned (.tuple #[fs[j].val vb, .int .i64 ((fs[j].body.length : Int) + 9), .nilIface]) ∧ BytesL.Own w' wr.heap.size vb fs[j].body) :=
                hrd.mono fun e w' hh => ⟨hh.1, by rcases hh.2 with h | h; exact absurd rfl h.1; exact h.2⟩
              obtain ⟨ar, cr, rfl, hr1, hr2, hr3, hr4⟩ := hbs.open
              obtain ⟨br, obr, rfl, _⟩ := hr4 0 (by rw [hcons, List.length_append, bytes_len]; omega)
              clear hr4 hr3
              have hlr : (allB (gs.drop j)).length = fs[j].body.length + 9 + (allB (gs.drop (j + 1))).length := by rw [hcons, List.length_append, bytes_len]
              have hcut : (allB (gs.drop j)).drop (fs[j].body.length + 9) = allB (gs.drop (j + 1)) := by rw [hcons, ← bytes_len, List.drop_left]
              replace c0 := (hB2.cell (p := ⟨b, off + j * 4, none⟩) hb).trans c0
              replace c1 := (hB2.cell (p := ⟨b, off + j * 4 + 1, none⟩) hb).trans c1
              replace c2 := (hB2.cell (p := ⟨b, off + j * 4 + 2, none⟩) hb).trans c2
              replace c3 := (hB2.cell (p := ⟨b, off + j * 4 + 3, none⟩) hb).trans c3
              have hfb : ByteL fs[j].body := hok.2.2.2
              have HVB := Lib.hid (hbody.below hB2)
              have hblen : fs[j].body.length ≤ 1024 := hgood.2
              have hbw : b < wr.heap.size := by omega
              obtain ⟨av, cv, rfl, _⟩ := (hbody.below hB2).open
              have HFB := Lib.hid hfb
              have HCUT := Lib.hid hcut
              have HLR := Lib.hid hlr
              have HSA : Hid (∀ (va vb : Value) (W : World), BytesAt W va fs[j].body → BytesAt W vb fs[j].body → Calls Try.prog 33 #[fs[j].val va, fs[j].val vb] W fun e w' => e = .returned (.bool true) ∧ Below W.heap.size W w') :=
                fun va vb W h1 h2 => same_any fs[j] fs[j] va vb W h1 h2 hfb hfb true (by simp)
              clear hrb hcons hg hgood hall hrd hbody hok hfb hbs hcut hlr
              generalize fs[j] = f at *
              obtain ⟨fk, ff, fst, body⟩ := f
              simp only [Fr.val] at *
              clear hB2
              go_wp2_with fail
              refine hrd2.out.mono ?_
              rintro e w2 ⟨hB3, vr, rfl, hvr⟩
              have HBR := Lib.hid (BytesAt.of_own hvr)
              obtain ⟨a3, c3', rfl, _⟩ := hvr.slice
              have HB3 := Lib.hid hB3
              have hsz3 := hB3.size
              have hB4 : Below wr.heap.size wr (w2.alloc (.cells #[.int .i64 fk, .int .i64 ff, .int .i64 fst, .slice a3 body.length c3'] 61)) := hB3.alloc hsz3 _
              have HB4 := Lib.hid hB4
              replace c0 := (hB4.cell (p := ⟨b, off + j * 4, none⟩) hbw).trans c0
              replace c1 := (hB4.cell (p := ⟨b, off + j * 4 + 1, none⟩) hbw).trans c1
              replace c2 := (hB4.cell (p := ⟨b, off + j * 4 + 2, none⟩) hbw).trans c2
              replace c3 := (hB4.cell (p := ⟨b, off + j * 4 + 3, none⟩) hbw).trans c3
              have HV4 := Lib.hid (HVB.out.below hB4)
              have HR4 := Lib.hid (HBR.out.below ((Below.refl _ _).alloc (Nat.le_refl _) (.cells #[.int .i64 fk, .int .i64 ff, .int .i64 fst, .slice a3 body.length c3'] 61)))
              clear hB3 hvr hB4
              have i1 : (0 : Int) ≤ (j : Int) := by omega
              have i2 : (j : Int) < (fs.length : Int) := by omega
              go_wp2_with fail
              have y0 : (w2.alloc (.cells #[.int .i64 fk, .int .i64 ff, .int .i64 fst, .slice a3 body.length c3'] 61)).cell? ⟨w2.heap.size, 0, none⟩ = some (.int .i64 fk) := by simp
              have y1 : (w2.alloc (.cells #[.int .i64 fk, .int .i64 ff, .int .i64 fst, .slice a3 body.length c3'] 61)).cell? ⟨w2.heap.size, 1, none⟩ = some (.int .i64 ff) := by simp
              have y2 : (w2.alloc (.cells #[.int .i64 fk, .int .i64 ff, .int .i64 fst, .slice a3 body.length c3'] 61)).cell? ⟨w2.heap.size, 2, none⟩ = some (.int .i64 fst) := by simp
              have y3 : (w2.alloc (.cells #[.int .i64 fk, .int .i64 ff, .int .i64 fst, .slice a3 body.length c3'] 61)).cell? ⟨w2.heap.size, 3, none⟩ = some (.slice a3 body.length c3') := by simp
              have hs3 : (w2.alloc (.cells #[.int .i64 fk, .int .i64 ff, .int .i64 fst, .slice a3 body.length c3'] 61)).heap.size = w2.heap.size + 1 := by simp
              have HS3 := Lib.hid hs3
              clear hs3
              generalize w2.alloc (.cells #[.int .i64 fk, .int .i64 ff, .int .i64 fst, .slice a3 body.length c3'] 61) = w3 at *
              go_still_tail 5, (by kernel_rfl)
              change wpList _ _ _ _ _ (World.drew _)
              go_wp2_with fail
              refine (HSA.out _ _ _ (by exact HR4.out) (by exact HV4.out)).mono ?_
              rintro e w5 ⟨rfl, hB5⟩
              have z3 : w5.cell? ⟨w2.heap.size, 3, none⟩ = some (.slice a3 body.length c3') := (hB5.cell (p := ⟨w2.heap.size, 3, none⟩) (by have := HS3.out; simp; omega)).trans y3
              have HB5 : Hid (Below wr.heap.size wr w5) := HB4.out.drew.trans (hB5.mono (by have := HS3.out; simp; omega))
              clear hB5
              have HBA5 := Lib.hid (HBA2.out.below HB5.out)
              have hLL : body.length + 9 ≤ (allB (gs.drop j)).length := by have := HLR.out; omega
              have HDL : Hid ((allB (gs.drop (j + 1))).length = (allB (gs.drop j)).length - (body.length + 9)) := by have := HLR.out; show _ = _; omega
              have HBF := Lib.hid (HB2.out.trans (HB5.out.mono hszj))
              clear y0 y1 y2 y3 c0 c1 c2 c3
              generalize (allB (gs.drop j)).length = LL at *
              by_cases hcr : cr = body.length + 9
              · have HZ : Hid (BytesAt w5 (.slice (some ⟨br, obr, none⟩) (LL - (body.length + 9)) (cr - (body.length + 9))) (allB (gs.drop (j + 1)))) := by
                  have h0 : allB (gs.drop (j + 1)) = [] := List.eq_nil_of_length_eq_zero (by rw [HDL.out]; omega)
                  rw [h0]
                  exact ⟨_, cr - (body.length + 9), by rw [show LL - (body.length + 9) = 0 by omega]; rfl, by simp [BytesL.valB], by omega, by simp, by simp [BytesL.valB]⟩
                rw [hcr] at HZ
                go_wp2
                go_roundw
                case rel => exact ⟨j + 1, by omega, by go_num, HBF.out, HZ.out⟩
                case measure => simp [intOf]; omega
              · have HZ : Hid (BytesAt w5 (.slice (some ⟨br, obr + (body.length + 9), none⟩) (LL - (body.length + 9)) (cr - (body.length + 9))) (allB (gs.drop (j + 1)))) := by
                  rw [← HCUT.out]
                  have h := HBA5.out
                  obtain ⟨aq, cq, eq, _⟩ := h.open
                  simp only [Value.slice.injEq] at eq
                  exact bytesAt_drop h _ (by omega)
                go_wp2
                go_roundw
                case rel => exact ⟨j + 1, by omega, by go_num, HBF.out, HZ.out⟩
                case measure => simp [intOf]; omega
            · obtain rfl : j = k := by omega
              have h0 : (allB (gs.drop j)) = [] := by rw [List.drop_of_length_le (by rw [HGL.out]; omega)]; rfl
              obtain ⟨ar, cr, rfl, _⟩ := hbs.open
              rw [h0]
              clear h0 hbs hB2
              go_wp2
              go_ret
              exact ⟨rfl, HB2.out⟩
end Go.Proofs.Ytpbaanoheeghlaa.WalkFrameRow
