/-
  FieldsBack answers true.
  Conditions: where the data lie; bytealg.MaxLen's cell; the powers of ten.
-/
import Derived.Test.YtooplackonnemaaDoorFieldsBackQ
import Derived.Test.YtooplackonnemaaDoorSame
import Derived.Test.YtooplackonnemaaDoorMsgArg
namespace Go.Proofs.YtooplackonnemaaDoor.WalkFieldsBack
open Go.RowKit Go.Shelf RowsK RowsM FieldRows LineC LineM BA FieldsC SameC
set_option linter.unusedVariables false
set_option linter.unusedSimpArgs false

theorem at_form {W : World} {v : Value} {l : List Fld} (h : At encF W v l) : ∃ a c, v = .slice a l.length c := by
  obtain ⟨a, c, e, -⟩ := h
  exact ⟨a, c, e⟩
theorem at_cell {W : World} {a : Option Addr} {n c : Nat} {l : List Fld} (h : At encF W (.slice a n c) l) (i : Nat) (hi : i < l.length) : ∃ b off, a = some ⟨b, off, none⟩ ∧ b < W.heap.size ∧ W.cell? ⟨b, off + i * 2, none⟩ = some (.string (l[i]).1) ∧ W.cell? ⟨b, off + i * 2 + 1, none⟩ = some (.string (l[i]).2) := by
  obtain ⟨a', c', e, -, -, -, hel⟩ := h
  simp only [Value.slice.injEq] at e
  obtain ⟨rfl, -, -⟩ := e
  obtain ⟨b, off, rfl, hb, hc⟩ := hel i hi
  exact ⟨b, off, rfl, hb, hc 0 (by decide), hc 1 (by decide)⟩
theorem cookies_step {l : List Fld} {i : Nat} (hi : i < l.length) : cookies (l.take (i + 1)) = cookies (l.take i) + (if isCookie l[i].1 then 1 else 0) := by
  unfold cookies
  rw [List.take_succ_eq_append_getElem hi, List.filter_append, List.length_append]
  split
  · rename_i h; rw [List.filter_cons, h]; rfl
  · rename_i h; rw [List.filter_cons, if_neg (by simpa using h)]; rfl
theorem held5_new (w : World) (a b c d e : Value) (t : TypeId) : Held5 w.heap.size (w.alloc (.cells #[a, b, c, d, e] t)) a b c d e := ⟨by simp, by simp, by simp, by simp, by simp, by simp, fun i => by simp⟩
def btw (l : List Fld) : Bool := l.any fun f => betweenB f.1
theorem btw_step {l : List Fld} {i : Nat} (hi : i < l.length) : btw (l.take (i + 1)) = (btw (l.take i) || betweenB l[i].1) := by
  unfold btw
  rw [List.take_succ_eq_append_getElem hi, List.any_append]
  simp
set_option maxRecDepth 100000 in
set_option maxHeartbeats 40000000 in
theorem walk (r : Rq) (vf vb : Value) (a : Rp) (vf2 vb2 : Value) (w : World) (hr : RqAt w vf vb r) (ha : RpAt w vf2 vb2 a) (hmx : ∃ m, w.cell? ⟨2, 0, none⟩ = some (.int .i64 m)) (hp : Pow10 w) :
    Calls Tryd.prog 3 #[rqV r vf vb, rpV a vf2 vb2] w fun e w' => e = .returned (.bool true) ∧ Below w.heap.size w w' := by
  obtain ⟨m, hm⟩ := hmx
  have hM : Hid (∀ W, Below w.heap.size w W → W.cell? ⟨2, 0, none⟩ = some (.int .i64 m)) := fun W hB => (hB.cell (p := ⟨2, 0, none⟩) (block_lt_of_cell hm)).trans hm
  have HP := Lib.hid (fun W (hB : Below w.heap.size w W) => hp.old hB)
  have HRq := Lib.hid hr
  have HRp := Lib.hid ha
  have HF1 := Lib.hid (fun W (hB : Below w.heap.size w W) => hr.fs.1.old hB)
  have HF2 := Lib.hid (fun W (hB : Below w.heap.size w W) => ha.fs.1.old hB)
  have HY1 := Lib.hid (fun W (hB : Below w.heap.size w W) => hr.bs.1.below hB)
  have HY2 := Lib.hid (fun W (hB : Below w.heap.size w W) => ha.bs.1.below hB)
  -- the second half's calls
  have HTB := Lib.hid (fun (hk : tellE a 0 ≠ 0) W (hB : Below w.heap.size w W) => tell_bad a vf2 vb2 W (HRp.out.fs.1.old hB) (HRp.out.bs.1.below hB) hk)
  have HTO := Lib.hid (fun (hk : tellE a 0 = 0) W (hB : Below w.heap.size w W) => by
    obtain ⟨h1, h2, ⟨h3, h4⟩, h5⟩ := tell_right hk
    exact tell_ok a vf2 vb2 W m (HRp.out.fs.1.old hB) (HRp.out.bs.1.below hB) hk ⟨by omega, by omega⟩ h2 h1 (by have := weight_all a.fields (sizes_ok h5); omega) (hM.out W hB) (HP.out W hB))
  have HRE := Lib.hid (fun (hk : tellE a 0 = 0) W v (hB : Below w.heap.size w W) (hl : At encF W v (tellF a)) => by
    obtain ⟨h1, h2, h3, h5⟩ := tell_right hk
    have h := reply_ok a.code (tellTail a) a.body v vb2 W hl (HRp.out.bs.1.below hB) h3 (tail_colon h5) (reply_right hk) (by have := tail_len a h1; omega) h2 (HP.out W hB)
    rw [tail_filter] at h
    exact h)
  have HCL := Lib.hid (fun (hk : tellE a 0 = 0) W v (l : List Fld) (hB : Below w.heap.size w W) (hl : At encF W v l) (hs : l = a.fields ∨ l = cleanL a.fields) => by
    obtain ⟨h1, h2, h3, h5⟩ := tell_right hk
    refine clean_any v l W m hl ?_ (hM.out W hB)
    rcases hs with rfl | rfl
    · have := weight_all a.fields (sizes_ok h5); omega
    · have h6 := weight_all (cleanL a.fields) (fun f hf => sizes_ok h5 f (clean_sub hf).1)
      have h7 : (cleanL a.fields).length ≤ a.fields.length := List.length_filter_le _ _
      omega)
  -- the first half's
  have HLB := Lib.hid (fun (hk : askE r ≠ 0) W (hB : Below w.heap.size w W) => list_bad r vf vb W (HRq.out.fs.1.old hB) (HRq.out.bs.1.below hB) hk)
  have HLO := Lib.hid (fun (hk : askE r = 0) W (hB : Below w.heap.size w W) => by
    obtain ⟨h1, h2, h5⟩ := ask_right hk
    exact list_ok r vf vb W m (HRq.out.fs.1.old hB) (HRq.out.bs.1.below hB) hk (by have := weight_all r.fields (sizes_ok h5); omega) (hM.out W hB))
  have HAS := Lib.hid (fun (hk : askE r = 0) W v (hB : Below w.heap.size w W) (hl : At encF W v (listF r)) => by
    obtain ⟨h1, h2, h5⟩ := ask_right hk
    exact ask_any r.method r.path r.host (r.fields.flatMap crumbs) r.body v vb W hl (HRq.out.bs.1.below hB) (crumbs_colon h5) (by have := crumbs_W3all r.fields (sizes_ok h5); omega) (by omega) (HP.out W hB))
  obtain ⟨af, cf, rfl⟩ := at_form hr.fs.1
  obtain ⟨ab, cb, rfl, -⟩ := hr.bs.1.open
  obtain ⟨af2, cf2, rfl⟩ := at_form ha.fs.1
  obtain ⟨ab2, cb2, rfl, -⟩ := ha.bs.1.open
  obtain ⟨wb, hwb⟩ : ∃ wb, (w.alloc (.cells #[.string r.method, .string r.path, .string r.host, .slice af r.fields.length cf, .slice ab r.body.length cb] 25)).alloc (.cells #[.int .i64 a.code, .slice af2 a.fields.length cf2, .slice ab2 a.body.length cb2] 27) = wb := ⟨_, rfl⟩
  have hBb : Below w.heap.size w wb := by rw [← hwb]; exact ((Below.refl _ _).alloc (Nat.le_refl _) _).alloc (by simp) _
  have h5 : Held5 w.heap.size wb (.string r.method) (.string r.path) (.string r.host) (.slice af r.fields.length cf) (.slice ab r.body.length cb) := by
    have hb : wb.heap[w.heap.size]? = some (.cells #[.string r.method, .string r.path, .string r.host, .slice af r.fields.length cf, .slice ab r.body.length cb] 25) := by
      rw [← hwb, Below.heap_alloc _ _ _ (by simp)]; exact World.alloc_heap_new _ _
    refine ⟨by rw [← hwb]; simp; omega, ?_, ?_, ?_, ?_, ?_, fun i => ?_⟩ <;> first | simp [World.cell?, hb] | simp [World.frozen?, hb]
  have h3 : Held3 (w.heap.size + 1) wb (.int .i64 a.code) (.slice af2 a.fields.length cf2) (.slice ab2 a.body.length cb2) := by
    have h := Held3.new (w.alloc (.cells #[.string r.method, .string r.path, .string r.host, .slice af r.fields.length cf, .slice ab r.body.length cb] 25)) (.int .i64 a.code) (.slice af2 a.fields.length cf2) (.slice ab2 a.body.length cb2) 27
    rw [World.size_alloc, hwb] at h
    exact h
  have H5 := Lib.hid h5
  have H3 := Lib.hid h3
  have HBW := Lib.hid hBb
  have HC1 : Hid (Below w.heap.size w (wb.alloc (.cells #[.string ⟨#[99, 111, 111, 107, 105, 101]⟩, .string ⟨#[97, 59, 32, 98]⟩] 33))) := hBb.alloc (by have := hBb.size; omega) _
  have HL0 : Hid (Calls Tryd.prog 4 #[.agg #[.string ⟨#[71, 69, 84]⟩, .string ⟨#[47]⟩, .string ⟨#[104]⟩, .slice (some ⟨wb.heap.size, 0, none⟩) 1 1, .slice none 0 0]] (wb.alloc (.cells #[.string ⟨#[99, 111, 111, 107, 105, 101]⟩, .string ⟨#[97, 59, 32, 98]⟩] 33)) fun e w' => ∃ a n c, e = .returned (.tuple #[.slice a n c, .nilIface]) ∧ RowsK.Own encF w' (wb.alloc (.cells #[.string ⟨#[99, 111, 111, 107, 105, 101]⟩, .string ⟨#[97, 59, 32, 98]⟩] 33)).heap.size 33 (.slice a n c) (listF cookR) ∧ Below (wb.alloc (.cells #[.string ⟨#[99, 111, 111, 107, 105, 101]⟩, .string ⟨#[97, 59, 32, 98]⟩] 33)).heap.size (wb.alloc (.cells #[.string ⟨#[99, 111, 111, 107, 105, 101]⟩, .string ⟨#[97, 59, 32, 98]⟩] 33)) w') :=
    list_ok cookR (.slice (some ⟨wb.heap.size, 0, none⟩) 1 1) (.slice none 0 0) _ m ((RowsK.Own.lit (E := encF) (b := 0) (e := 33) wb #[.string ⟨#[99, 111, 111, 107, 105, 101]⟩, .string ⟨#[97, 59, 32, 98]⟩] [(cookieB, ⟨#[97, 59, 32, 98]⟩)] (Nat.zero_le _) (by simp) rfl).at_) (BytesAt.of_own (BytesL.Own.nil _ 0)) cook_right (by decide) (hM.out _ HC1.out)
  have hLn : (listF cookR).length = 5 := by rw [cook_list]; rfl
  have HLC := Lib.hid cook_list
  have HZ2 : Hid (∀ z ∈ a.body, 0 ≤ z ∧ z ≤ 255) := HRp.out.bs.2
  have HZ1 : Hid (∀ z ∈ r.body, 0 ≤ z ∧ z ≤ 255) := HRq.out.bs.2
  have HWB := Lib.hid hwb
  clear h5 h3 hBb hr ha hm hp hwb
  unfold rqV rpV at *
  by_cases hk : askE r = 0
  · have HLR := Lib.hid (HLO.out hk)
    have HASK := Lib.hid (HAS.out hk)
    have HSR := Lib.hid (fun (W : World) (v1 v2 v3 v4 : Value) (h1 : At encF W v1 r.fields) (h2 : At encF W v3 r.fields) (h3 : BytesAt W v2 r.body) (h4 : BytesAt W v4 r.body) => sameR_any r v1 v2 v3 v4 W h1 h2 h3 h4 HZ1.out)
    unfold rqV at HSR
    (try simp only at HSR)
    have HK := Lib.hid hk
    have HFR := Lib.hid (ask_right hk)
    have hlen : r.fields.length ≤ 40 := HFR.out.1
    clear hk
    go_enter Tryd.func3, Tryd.ntmps3
    go_upto_region 1 with fail
    rw [HWB.out]
    go_wp2_with (first
      | (go_at_call 4; (with_reducible refine HL0.out.mono ?_); rintro e wc ⟨la, ln, lc, rfl, hOl, hBl⟩; obtain ⟨la', lc', el, -⟩ := hOl.slice; rw [hLn] at el; simp only [Value.slice.injEq] at el; obtain ⟨rfl, rfl, rfl⟩ := el; obtain ⟨lb0, lo0, rfl, -, -, hc4⟩ := at_cell hOl.at_ 4 (by rw [hLn]; decide); have hv4 : (listF cookR)[4]'(by rw [hLn]; decide) = (cookieB, ⟨#[98]⟩) := (by have h := HLC.out; simp [h]); rw [hv4] at hc4; have hst : Below wb.heap.size wb wc := ((Below.refl _ _).alloc (Nat.le_refl _) _).trans (hBl.mono (by simp)); replace H5 := Lib.hid (H5.out.step hst H5.out.lt); replace H3 := Lib.hid (H3.out.step hst H3.out.lt); replace HBW := Lib.hid (LineM.bstep HBW.out hst); have g0 := H5.out.c0; have g1 := H5.out.c1; have g2 := H5.out.c2; have g3 := H5.out.c3; have g4 := H5.out.c4; clear hOl hBl hst)
      | (go_at_call 4; (with_reducible refine (HLR.out _ HBW.out).mono ?_); rintro e wd ⟨ra, rn, rc, rfl, hOd, hBd⟩; have HAl := Lib.hid hOd.at_; replace H5 := Lib.hid (H5.out.step hBd H5.out.lt); replace H3 := Lib.hid (H3.out.step hBd H3.out.lt); replace HBW := Lib.hid (LineM.bstep HBW.out hBd); have g0 := H5.out.c0; have g1 := H5.out.c1; have g2 := H5.out.c2; have g3 := H5.out.c3; have g4 := H5.out.c4; clear hOd hBd)
      | fail)
    obtain ⟨n, hn⟩ : ∃ n, r.fields.length = n := ⟨_, rfl⟩
    have HN := Lib.hid hn
    rw [hn] at g3 hlen
    clear hn
    go_loopw [9, 10, 11] (fun v9 v10 iv wr => ∃ i : Nat, iv = .int .i64 i ∧ i ≤ n ∧ v9 = .int .i64 (cookies (r.fields.take i) : Nat) ∧ v10 = .bool (btw (r.fields.take i)) ∧ wr = wd) (fun _ _ iv _ => n - (intOf iv).toNat)
    case atStart => exact ⟨0, rfl, Nat.zero_le _, rfl, rfl, rfl⟩
    case round =>
      obtain ⟨i, rfl, hi, rfl, rfl, rfl⟩ := hrel
      by_cases hlt : i < n
      · obtain ⟨b, off, rfl, hb, hc0, -⟩ := at_cell (HF1.out _ HBW.out) i (by rw [HN.out]; exact hlt)
        have hcs := cookies_step (l := r.fields) (i := i) (by rw [HN.out]; exact hlt)
        have hbs := btw_step (l := r.fields) (i := i) (by rw [HN.out]; exact hlt)
        generalize (r.fields[i]'(by rw [HN.out]; exact hlt)).1 = xa at hc0 hcs hbs
        have hck : cookies (r.fields.take i) ≤ 40 := by
          unfold cookies
          refine Nat.le_trans (List.length_filter_le _ _) ?_
          rw [List.length_take]; omega
        have HCS := Lib.hid hcs
        have HBS := Lib.hid hbs
        have hi0 : (0 : Int) ≤ (i : Int) := by omega
        have hi1 : (i : Int) < (n : Int) := by omega
        generalize cookies (r.fields.take i) = cki at *
        generalize btw (r.fields.take i) = bt at *
        clear hcs hbs
        have hbd : betweenB xa = (xa.toList == [99, 111, 110, 110, 101, 99, 116, 105, 111, 110] || xa.toList == [99, 111, 100, 105, 110, 103] || xa.toList == [107, 101, 101, 112] || xa.toList == [117, 112, 103, 114, 97, 100, 101]) := rfl
        have HBD := Lib.hid hbd
        clear hbd
        rcases hco : (xa.toList == [99, 111, 111, 107, 105, 101]) with _ | _
        · rcases bt with _ | _
          · rcases e1 : (xa.toList == [99, 111, 110, 110, 101, 99, 116, 105, 111, 110]) with _ | _
            · rcases e2 : (xa.toList == [99, 111, 100, 105, 110, 103]) with _ | _
              · rcases e3 : (xa.toList == [107, 101, 101, 112]) with _ | _
                · rcases e4 : (xa.toList == [117, 112, 103, 114, 97, 100, 101]) with _ | _
                  · have hbv : betweenB xa = false := by rw [HBD.out, e1, e2, e3, e4]; rfl
                    have HBV := Lib.hid hbv
                    clear hbv
                    have HCO := Lib.hid hco
                    go_wp2_with fail
                    go_roundw
                    case rel => exact ⟨i + 1, by go_num, by omega, by rw [HCS.out]; unfold isCookie; rw [HCO.out]; rfl, by rw [HBS.out, HBV.out]; rfl, trivial⟩
                    case measure => simp [intOf]; omega
                  · have hbv : betweenB xa = true := by rw [HBD.out, e1, e2, e3, e4]; rfl
                    have HBV := Lib.hid hbv
                    clear hbv
                    have HCO := Lib.hid hco
                    go_wp2_with fail
                    go_roundw
                    case rel => exact ⟨i + 1, by go_num, by omega, by rw [HCS.out]; unfold isCookie; rw [HCO.out]; rfl, by rw [HBS.out, HBV.out]; rfl, trivial⟩
                    case measure => simp [intOf]; omega
                · have hbv : betweenB xa = true := by rw [HBD.out, e1, e2, e3]; rfl
                  have HBV := Lib.hid hbv
                  clear hbv
                  have HCO := Lib.hid hco
                  go_wp2_with fail
                  go_roundw
                  case rel => exact ⟨i + 1, by go_num, by omega, by rw [HCS.out]; unfold isCookie; rw [HCO.out]; rfl, by rw [HBS.out, HBV.out]; rfl, trivial⟩
                  case measure => simp [intOf]; omega
              · have hbv : betweenB xa = true := by rw [HBD.out, e1, e2]; rfl
                have HBV := Lib.hid hbv
                clear hbv
                have HCO := Lib.hid hco
                go_wp2_with fail
                go_roundw
                case rel => exact ⟨i + 1, by go_num, by omega, by rw [HCS.out]; unfold isCookie; rw [HCO.out]; rfl, by rw [HBS.out, HBV.out]; rfl, trivial⟩
                case measure => simp [intOf]; omega
            · have hbv : betweenB xa = true := by rw [HBD.out, e1]; rfl
              have HBV := Lib.hid hbv
              clear hbv
              have HCO := Lib.hid hco
              go_wp2_with fail
              go_roundw
              case rel => exact ⟨i + 1, by go_num, by omega, by rw [HCS.out]; unfold isCookie; rw [HCO.out]; rfl, by rw [HBS.out, HBV.out]; rfl, trivial⟩
              case measure => simp [intOf]; omega
          · have HCO := Lib.hid hco
            go_wp2_with fail
            go_roundw
            case rel => exact ⟨i + 1, by go_num, by omega, by rw [HCS.out]; unfold isCookie; rw [HCO.out]; rfl, by rw [HBS.out]; rfl, trivial⟩
            case measure => simp [intOf]; omega
        · rcases bt with _ | _
          · rcases e1 : (xa.toList == [99, 111, 110, 110, 101, 99, 116, 105, 111, 110]) with _ | _
            · rcases e2 : (xa.toList == [99, 111, 100, 105, 110, 103]) with _ | _
              · rcases e3 : (xa.toList == [107, 101, 101, 112]) with _ | _
                · rcases e4 : (xa.toList == [117, 112, 103, 114, 97, 100, 101]) with _ | _
                  · have hbv : betweenB xa = false := by rw [HBD.out, e1, e2, e3, e4]; rfl
                    have HBV := Lib.hid hbv
                    clear hbv
                    have HCO := Lib.hid hco
                    go_wp2_with fail
                    go_roundw
                    case rel => exact ⟨i + 1, by go_num, by omega, by rw [HCS.out]; unfold isCookie; rw [HCO.out]; simp, by rw [HBS.out, HBV.out]; rfl, trivial⟩
                    case measure => simp [intOf]; omega
                  · have hbv : betweenB xa = true := by rw [HBD.out, e1, e2, e3, e4]; rfl
                    have HBV := Lib.hid hbv
                    clear hbv
                    have HCO := Lib.hid hco
                    go_wp2_with fail
                    go_roundw
                    case rel => exact ⟨i + 1, by go_num, by omega, by rw [HCS.out]; unfold isCookie; rw [HCO.out]; simp, by rw [HBS.out, HBV.out]; rfl, trivial⟩
                    case measure => simp [intOf]; omega
                · have hbv : betweenB xa = true := by rw [HBD.out, e1, e2, e3]; rfl
                  have HBV := Lib.hid hbv
                  clear hbv
                  have HCO := Lib.hid hco
                  go_wp2_with fail
                  go_roundw
                  case rel => exact ⟨i + 1, by go_num, by omega, by rw [HCS.out]; unfold isCookie; rw [HCO.out]; simp, by rw [HBS.out, HBV.out]; rfl, trivial⟩
                  case measure => simp [intOf]; omega
              · have hbv : betweenB xa = true := by rw [HBD.out, e1, e2]; rfl
                have HBV := Lib.hid hbv
                clear hbv
                have HCO := Lib.hid hco
                go_wp2_with fail
                go_roundw
                case rel => exact ⟨i + 1, by go_num, by omega, by rw [HCS.out]; unfold isCookie; rw [HCO.out]; simp, by rw [HBS.out, HBV.out]; rfl, trivial⟩
                case measure => simp [intOf]; omega
            · have hbv : betweenB xa = true := by rw [HBD.out, e1]; rfl
              have HBV := Lib.hid hbv
              clear hbv
              have HCO := Lib.hid hco
              go_wp2_with fail
              go_roundw
              case rel => exact ⟨i + 1, by go_num, by omega, by rw [HCS.out]; unfold isCookie; rw [HCO.out]; simp, by rw [HBS.out, HBV.out]; rfl, trivial⟩
              case measure => simp [intOf]; omega
          · have HCO := Lib.hid hco
            go_wp2_with fail
            go_roundw
            case rel => exact ⟨i + 1, by go_num, by omega, by rw [HCS.out]; unfold isCookie; rw [HCO.out]; simp, by rw [HBS.out]; rfl, trivial⟩
            case measure => simp [intOf]; omega
      · obtain rfl : i = n := by omega
        have hci : ((cookies r.fields : Nat) : Int) ≤ 40 := by
          have h : cookies r.fields ≤ r.fields.length := List.length_filter_le _ _
          rw [HN.out] at h; omega
        rw [List.take_of_length_le (by rw [HN.out]; exact Nat.le_refl _)]
        rcases hbt : btw r.fields with _ | _
        · have hgood : ∀ f ∈ r.fields, goodF f = true := fun f hf => good_of (firstE_zero HFR.out.2.2 f hf) (by
            unfold btw at hbt
            rw [List.any_eq_false] at hbt
            simpa using hbt f hf)
          by_cases hc1 : cookies r.fields < 2
          · have HRUN := Lib.hid (run_one (itoaB (r.body.length : Int)) r.fields [] hgood (by omega))
            have HA2 : Hid (Calls Tryd.prog 5 #[.slice ra rn rc, .slice ab r.body.length cb] wr fun e w' => ∃ fa fc ba bc, e = .returned (.tuple #[.agg #[.string r.method, .string r.path, .string r.host, .slice fa r.fields.length fc, .slice ba r.body.length bc], .nilIface]) ∧ At encF w' (.slice fa r.fields.length fc) r.fields ∧ BytesAt w' (.slice ba r.body.length bc) r.body ∧ Below wr.heap.size wr w') := by
              refine (HASK.out _ _ HBW.out HAl.out).mono ?_
              rintro e w' ⟨hB, ⟨hz, -⟩ | ⟨s, hs, hr⟩⟩
              · obtain ⟨ck, h⟩ := HRUN.out; rw [h] at hz; cases hz
              · obtain ⟨ck, h⟩ := HRUN.out
                rw [h] at hs
                obtain rfl := Option.some.inj hs
                simp only [List.nil_append] at hr
                have hk0 : askE ⟨r.method, r.path, r.host, r.fields, r.body⟩ = 0 := HK.out
                rcases hr with ⟨h0, -⟩ | ⟨-, fa, fn, fc, ba, bn, bc, rfl, hf, hb⟩
                · exact absurd hk0 h0
                · obtain ⟨a', c', e'⟩ := at_form hf
                  obtain ⟨a2, c2, e2, -⟩ := hb.open
                  simp only [Value.slice.injEq] at e' e2
                  obtain ⟨rfl, rfl, rfl⟩ := e'
                  obtain ⟨rfl, rfl, rfl⟩ := e2
                  exact ⟨_, _, _, _, rfl, hf, hb, hB⟩
            have hc1' : ((cookies r.fields : Nat) : Int) < 2 := by omega
            clear hbt hgood hc1
            generalize cookies r.fields = cr at *
            go_upto_region 22 with (first
              | (go_at_call 5; (with_reducible refine HA2.out.mono ?_); rintro e wq ⟨fa, fc, ba, bc, rfl, hAq, hBq, hB9⟩; have hst := hB9.trans ((Below.refl wr.heap.size wq).alloc hB9.size (.cells #[.string r.method, .string r.path, .string r.host, .slice fa r.fields.length fc, .slice ba r.body.length bc] 25)); have HAq := Lib.hid (hAq.old ((Below.refl _ _).alloc (Nat.le_refl _) (.cells #[.string r.method, .string r.path, .string r.host, .slice fa r.fields.length fc, .slice ba r.body.length bc] 25))); have HBq := Lib.hid (hBq.below ((Below.refl _ _).alloc (Nat.le_refl _) (.cells #[.string r.method, .string r.path, .string r.host, .slice fa r.fields.length fc, .slice ba r.body.length bc] 25))); have HQ5 := Lib.hid (held5_new wq (.string r.method) (.string r.path) (.string r.host) (.slice fa r.fields.length fc) (.slice ba r.body.length bc) 25); replace H5 := Lib.hid (H5.out.step hst H5.out.lt); replace H3 := Lib.hid (H3.out.step hst H3.out.lt); replace HBW := Lib.hid (LineM.bstep HBW.out hst); have g0 := H5.out.c0; have g1 := H5.out.c1; have g2 := H5.out.c2; have g3 := H5.out.c3; have g4 := H5.out.c4; have s0 := HQ5.out.c0; have s1 := HQ5.out.c1; have s2 := HQ5.out.c2; have s3 := HQ5.out.c3; have s4 := HQ5.out.c4; have HF1q := Lib.hid (HF1.out _ HBW.out); clear hAq hBq hB9 hst)
              | (go_at_call 6; (with_reducible refine (HSR.out _ _ _ _ _ HAq.out HF1q.out HBq.out (HY1.out _ HBW.out)).mono ?_); rintro e w7 ⟨rfl, hst⟩; replace H5 := Lib.hid (H5.out.step hst H5.out.lt); replace H3 := Lib.hid (H3.out.step hst H3.out.lt); replace HBW := Lib.hid (LineM.bstep HBW.out hst); clear hst)
              | fail)
            have t0 := H3.out.c0
            have t1 := H3.out.c1
            have t2 := H3.out.c2
            by_cases htl : tellE a 0 = 0
            · have HT := Lib.hid (HTO.out htl _ HBW.out)
              have HTE := Lib.hid htl
              have HFL := Lib.hid (tell_right htl)
              clear htl
              go_wp2_with (first
                | (go_at_call 7; (with_reducible refine HT.out.mono ?_); rintro e wt ⟨ma, mn, mc, rfl, hOm, hBm⟩; have HAm := Lib.hid hOm.at_; replace H5 := Lib.hid (H5.out.step hBm H5.out.lt); replace H3 := Lib.hid (H3.out.step hBm H3.out.lt); replace HBW := Lib.hid (LineM.bstep HBW.out hBm); have t0 := H3.out.c0; have t1 := H3.out.c1; have t2 := H3.out.c2; clear hOm hBm)
                | (go_at_call 8; (with_reducible refine (HRE.out HTE.out _ _ HBW.out HAm.out).mono ?_); rintro e wp ⟨pa, pn, pc, qa, qn, qc, rfl, hAp, hBp, hB9⟩; obtain ⟨pa', pc', ep⟩ := at_form hAp; simp only [Value.slice.injEq] at ep; obtain ⟨rfl, rfl, rfl⟩ := ep; obtain ⟨qa', qc', eq, -⟩ := hBp.open; simp only [Value.slice.injEq] at eq; obtain ⟨rfl, rfl, rfl⟩ := eq; have hst := hB9.trans ((Below.refl wt.heap.size wp).alloc hB9.size (.cells #[.int .i64 a.code, .slice pa (cleanL a.fields).length pc, .slice qa a.body.length qc] 27)); have HAp := Lib.hid (hAp.old ((Below.refl _ _).alloc (Nat.le_refl _) (.cells #[.int .i64 a.code, .slice pa (cleanL a.fields).length pc, .slice qa a.body.length qc] 27))); have HBp := Lib.hid (hBp.below ((Below.refl _ _).alloc (Nat.le_refl _) (.cells #[.int .i64 a.code, .slice pa (cleanL a.fields).length pc, .slice qa a.body.length qc] 27))); have HQ := Lib.hid (Held3.new wp (.int .i64 a.code) (.slice pa (cleanL a.fields).length pc) (.slice qa a.body.length qc) 27); replace H5 := Lib.hid (H5.out.step hst H5.out.lt); replace H3 := Lib.hid (H3.out.step hst H3.out.lt); replace HBW := Lib.hid (LineM.bstep HBW.out hst); have t0 := H3.out.c0; have t1 := H3.out.c1; have t2 := H3.out.c2; clear hAp hBp hB9 hst)
                | (go_at_call 9; (with_reducible refine (HCL.out HTE.out _ _ a.fields HBW.out (HF2.out _ HBW.out) (Or.inl rfl)).mono ?_); rintro e wx ⟨xa, xn, xc, rfl, hOx, hBx⟩; have HAx := Lib.hid hOx.at_; replace HAp := Lib.hid (HAp.out.old hBx); replace HBp := Lib.hid (HBp.out.below hBx); replace HQ := Lib.hid (HQ.out.step hBx HQ.out.lt); replace H5 := Lib.hid (H5.out.step hBx H5.out.lt); replace H3 := Lib.hid (H3.out.step hBx H3.out.lt); replace HBW := Lib.hid (LineM.bstep HBW.out hBx); have t0 := H3.out.c0; have t1 := H3.out.c1; have t2 := H3.out.c2; clear hOx hBx)
                | (go_at_call 9; (with_reducible refine (HCL.out HTE.out _ _ (cleanL a.fields) HBW.out HAx.out (Or.inr rfl)).mono ?_); rintro e wy ⟨ya, yn, yc, rfl, hOy, hBy⟩; have HAy := Lib.hid hOy.at_; replace HAx := Lib.hid (HAx.out.old hBy); replace HAp := Lib.hid (HAp.out.old hBy); replace HBp := Lib.hid (HBp.out.below hBy); replace HQ := Lib.hid (HQ.out.step hBy HQ.out.lt); rw [clean_clean] at HAy; replace H5 := Lib.hid (H5.out.step hBy H5.out.lt); replace H3 := Lib.hid (H3.out.step hBy H3.out.lt); replace HBW := Lib.hid (LineM.bstep HBW.out hBy); have t0 := H3.out.c0; have t1 := H3.out.c1; have t2 := H3.out.c2; have s0 := HQ.out.c0; have s1 := HQ.out.c1; have s2 := HQ.out.c2; have HY := Lib.hid hBy; clear hOy hBy)
                | (go_at_call 10; (with_reducible refine (sameF_any (cleanL a.fields) _ _ _ HAp.out HAx.out).mono ?_); rintro e w5 ⟨rfl, n5, rfl⟩; have hst := below_drewN (Below.refl wy.heap.size wy) n5; generalize wy.drewN n5 = wv at *; replace HAx := Lib.hid (HAx.out.old hst); replace HAy := Lib.hid (HAy.out.old hst); replace HBp := Lib.hid (HBp.out.below hst); replace HQ := Lib.hid (HQ.out.step hst HQ.out.lt); replace H5 := Lib.hid (H5.out.step hst H5.out.lt); replace H3 := Lib.hid (H3.out.step hst H3.out.lt); replace HBW := Lib.hid (LineM.bstep HBW.out hst); clear hst)
                | (go_at_call 10; (with_reducible refine (sameF_any (cleanL a.fields) _ _ _ HAx.out HAy.out).mono ?_); rintro e w5 ⟨rfl, n6, rfl⟩; have hst := below_drewN (Below.refl wv.heap.size wv) n6; generalize wv.drewN n6 = wz at *; replace HBp := Lib.hid (HBp.out.below hst); replace HQ := Lib.hid (HQ.out.step hst HQ.out.lt); replace H5 := Lib.hid (H5.out.step hst H5.out.lt); replace H3 := Lib.hid (H3.out.step hst H3.out.lt); replace HBW := Lib.hid (LineM.bstep HBW.out hst); have t0 := H3.out.c0; have t1 := H3.out.c1; have t2 := H3.out.c2; have s0 := HQ.out.c0; have s1 := HQ.out.c1; have s2 := HQ.out.c2; have cv1 := conv_back HBp.out HZ2.out; have cv2 := conv_back (HY2.out _ HBW.out) HZ2.out; clear hst)
                | fail)
              go_ret
              exact ⟨by simp, HBW.out⟩
            · have HT := Lib.hid (HTB.out htl _ HBW.out)
              clear htl
              go_wp2_with (first
                | (go_at_call 7; (with_reducible refine HT.out.mono ?_); rintro e wt ⟨rfl, hBm⟩; replace HBW := Lib.hid (LineM.bstep HBW.out hBm); clear hBm)
                | fail)
              go_ret
              exact ⟨rfl, HBW.out⟩
          · have hc1' : ¬ ((cookies r.fields : Nat) : Int) < 2 := by omega
            have HA3 : Hid (Calls Tryd.prog 5 #[.slice ra rn rc, .slice ab r.body.length cb] wr fun e w' => ∃ z0 z1 z2 y3 n3 c3 y4 n4 c4 er, e = .returned (.tuple #[.agg #[.string z0, .string z1, .string z2, .slice y3 n3 c3, .slice y4 n4 c4], er]) ∧ Below wr.heap.size wr w') := by
              refine (HASK.out _ _ HBW.out HAl.out).mono ?_
              rintro e w' ⟨hB, ⟨-, rfl⟩ | ⟨s, -, ⟨-, rfl⟩ | ⟨-, fa, fn, fc, ba, bn, bc, rfl, -⟩⟩⟩
              · exact ⟨_, _, _, _, _, _, _, _, _, _, rfl, hB⟩
              · exact ⟨_, _, _, _, _, _, _, _, _, _, rfl, hB⟩
              · exact ⟨_, _, _, _, _, _, _, _, _, _, rfl, hB⟩
            clear hbt hgood hc1
            generalize cookies r.fields = cr at *
            go_upto_region 22 with (first
              | (go_at_call 5; (with_reducible refine HA3.out.mono ?_); rintro e wq ⟨z0, z1, z2, y3, n3, c3, y4, n4, c4, er, rfl, hB9⟩; have hst := hB9.trans ((Below.refl wr.heap.size wq).alloc hB9.size (.cells #[.string z0, .string z1, .string z2, .slice y3 n3 c3, .slice y4 n4 c4] 25)); replace H5 := Lib.hid (H5.out.step hst H5.out.lt); replace H3 := Lib.hid (H3.out.step hst H3.out.lt); replace HBW := Lib.hid (LineM.bstep HBW.out hst); clear hB9 hst)
              | fail)
            have t0 := H3.out.c0
            have t1 := H3.out.c1
            have t2 := H3.out.c2
            by_cases htl : tellE a 0 = 0
            · have HT := Lib.hid (HTO.out htl _ HBW.out)
              have HTE := Lib.hid htl
              have HFL := Lib.hid (tell_right htl)
              clear htl
              go_wp2_with (first
                | (go_at_call 7; (with_reducible refine HT.out.mono ?_); rintro e wt ⟨ma, mn, mc, rfl, hOm, hBm⟩; have HAm := Lib.hid hOm.at_; replace H5 := Lib.hid (H5.out.step hBm H5.out.lt); replace H3 := Lib.hid (H3.out.step hBm H3.out.lt); replace HBW := Lib.hid (LineM.bstep HBW.out hBm); have t0 := H3.out.c0; have t1 := H3.out.c1; have t2 := H3.out.c2; clear hOm hBm)
                | (go_at_call 8; (with_reducible refine (HRE.out HTE.out _ _ HBW.out HAm.out).mono ?_); rintro e wp ⟨pa, pn, pc, qa, qn, qc, rfl, hAp, hBp, hB9⟩; obtain ⟨pa', pc', ep⟩ := at_form hAp; simp only [Value.slice.injEq] at ep; obtain ⟨rfl, rfl, rfl⟩ := ep; obtain ⟨qa', qc', eq, -⟩ := hBp.open; simp only [Value.slice.injEq] at eq; obtain ⟨rfl, rfl, rfl⟩ := eq; have hst := hB9.trans ((Below.refl wt.heap.size wp).alloc hB9.size (.cells #[.int .i64 a.code, .slice pa (cleanL a.fields).length pc, .slice qa a.body.length qc] 27)); have HAp := Lib.hid (hAp.old ((Below.refl _ _).alloc (Nat.le_refl _) (.cells #[.int .i64 a.code, .slice pa (cleanL a.fields).length pc, .slice qa a.body.length qc] 27))); have HBp := Lib.hid (hBp.below ((Below.refl _ _).alloc (Nat.le_refl _) (.cells #[.int .i64 a.code, .slice pa (cleanL a.fields).length pc, .slice qa a.body.length qc] 27))); have HQ := Lib.hid (Held3.new wp (.int .i64 a.code) (.slice pa (cleanL a.fields).length pc) (.slice qa a.body.length qc) 27); replace H5 := Lib.hid (H5.out.step hst H5.out.lt); replace H3 := Lib.hid (H3.out.step hst H3.out.lt); replace HBW := Lib.hid (LineM.bstep HBW.out hst); have t0 := H3.out.c0; have t1 := H3.out.c1; have t2 := H3.out.c2; clear hAp hBp hB9 hst)
                | (go_at_call 9; (with_reducible refine (HCL.out HTE.out _ _ a.fields HBW.out (HF2.out _ HBW.out) (Or.inl rfl)).mono ?_); rintro e wx ⟨xa, xn, xc, rfl, hOx, hBx⟩; have HAx := Lib.hid hOx.at_; replace HAp := Lib.hid (HAp.out.old hBx); replace HBp := Lib.hid (HBp.out.below hBx); replace HQ := Lib.hid (HQ.out.step hBx HQ.out.lt); replace H5 := Lib.hid (H5.out.step hBx H5.out.lt); replace H3 := Lib.hid (H3.out.step hBx H3.out.lt); replace HBW := Lib.hid (LineM.bstep HBW.out hBx); have t0 := H3.out.c0; have t1 := H3.out.c1; have t2 := H3.out.c2; clear hOx hBx)
                | (go_at_call 9; (with_reducible refine (HCL.out HTE.out _ _ (cleanL a.fields) HBW.out HAx.out (Or.inr rfl)).mono ?_); rintro e wy ⟨ya, yn, yc, rfl, hOy, hBy⟩; have HAy := Lib.hid hOy.at_; replace HAx := Lib.hid (HAx.out.old hBy); replace HAp := Lib.hid (HAp.out.old hBy); replace HBp := Lib.hid (HBp.out.below hBy); replace HQ := Lib.hid (HQ.out.step hBy HQ.out.lt); rw [clean_clean] at HAy; replace H5 := Lib.hid (H5.out.step hBy H5.out.lt); replace H3 := Lib.hid (H3.out.step hBy H3.out.lt); replace HBW := Lib.hid (LineM.bstep HBW.out hBy); have t0 := H3.out.c0; have t1 := H3.out.c1; have t2 := H3.out.c2; have s0 := HQ.out.c0; have s1 := HQ.out.c1; have s2 := HQ.out.c2; have HY := Lib.hid hBy; clear hOy hBy)
                | (go_at_call 10; (with_reducible refine (sameF_any (cleanL a.fields) _ _ _ HAp.out HAx.out).mono ?_); rintro e w5 ⟨rfl, n5, rfl⟩; have hst := below_drewN (Below.refl wy.heap.size wy) n5; generalize wy.drewN n5 = wv at *; replace HAx := Lib.hid (HAx.out.old hst); replace HAy := Lib.hid (HAy.out.old hst); replace HBp := Lib.hid (HBp.out.below hst); replace HQ := Lib.hid (HQ.out.step hst HQ.out.lt); replace H5 := Lib.hid (H5.out.step hst H5.out.lt); replace H3 := Lib.hid (H3.out.step hst H3.out.lt); replace HBW := Lib.hid (LineM.bstep HBW.out hst); clear hst)
                | (go_at_call 10; (with_reducible refine (sameF_any (cleanL a.fields) _ _ _ HAx.out HAy.out).mono ?_); rintro e w5 ⟨rfl, n6, rfl⟩; have hst := below_drewN (Below.refl wv.heap.size wv) n6; generalize wv.drewN n6 = wz at *; replace HBp := Lib.hid (HBp.out.below hst); replace HQ := Lib.hid (HQ.out.step hst HQ.out.lt); replace H5 := Lib.hid (H5.out.step hst H5.out.lt); replace H3 := Lib.hid (H3.out.step hst H3.out.lt); replace HBW := Lib.hid (LineM.bstep HBW.out hst); have t0 := H3.out.c0; have t1 := H3.out.c1; have t2 := H3.out.c2; have s0 := HQ.out.c0; have s1 := HQ.out.c1; have s2 := HQ.out.c2; have cv1 := conv_back HBp.out HZ2.out; have cv2 := conv_back (HY2.out _ HBW.out) HZ2.out; clear hst)
                | fail)
              go_ret
              exact ⟨by simp, HBW.out⟩
            · have HT := Lib.hid (HTB.out htl _ HBW.out)
              clear htl
              go_wp2_with (first
                | (go_at_call 7; (with_reducible refine HT.out.mono ?_); rintro e wt ⟨rfl, hBm⟩; replace HBW := Lib.hid (LineM.bstep HBW.out hBm); clear hBm)
                | fail)
              go_ret
              exact ⟨rfl, HBW.out⟩
        · have HA1 : Hid (Calls Tryd.prog 5 #[.slice ra rn rc, .slice ab r.body.length cb] wr fun e w' => e = .returned (.tuple #[.agg #[.string ⟨#[]⟩, .string ⟨#[]⟩, .string ⟨#[]⟩, .slice none 0 0, .slice none 0 0], .iface 52 (.int .i64 3)]) ∧ Below wr.heap.size wr w') := by
            have hn := run_between (itoaB (r.body.length : Int)) r.fields (none, []) (by
              unfold btw at hbt
              obtain ⟨f, hf, hb⟩ := List.any_eq_true.1 hbt
              exact ⟨f, hf, hb⟩)
            refine (HASK.out _ _ HBW.out HAl.out).mono ?_
            rintro e w' ⟨hB, ⟨-, rfl⟩ | ⟨s, hs, -⟩⟩
            · exact ⟨rfl, hB⟩
            · rw [hn] at hs; cases hs
          have hc2 : ((cookies r.fields : Nat) : Int) < 2 ∨ ¬ ((cookies r.fields : Nat) : Int) < 2 := Classical.em _
          clear hbt
          generalize cookies r.fields = cr at *
          rcases hc2 with hc2 | hc2
          · go_upto_region 22 with (first
              | (go_at_call 5; (with_reducible refine HA1.out.mono ?_); rintro e wq ⟨rfl, hB9⟩; have hst := hB9.trans ((Below.refl wr.heap.size wq).alloc hB9.size (.cells #[.string ⟨#[]⟩, .string ⟨#[]⟩, .string ⟨#[]⟩, .slice none 0 0, .slice none 0 0] 25)); replace H5 := Lib.hid (H5.out.step hst H5.out.lt); replace H3 := Lib.hid (H3.out.step hst H3.out.lt); replace HBW := Lib.hid (LineM.bstep HBW.out hst); clear hB9 hst)
              | fail)
            have t0 := H3.out.c0
            have t1 := H3.out.c1
            have t2 := H3.out.c2
            by_cases htl : tellE a 0 = 0
            · have HT := Lib.hid (HTO.out htl _ HBW.out)
              have HTE := Lib.hid htl
              have HFL := Lib.hid (tell_right htl)
              clear htl
              go_wp2_with (first
                | (go_at_call 7; (with_reducible refine HT.out.mono ?_); rintro e wt ⟨ma, mn, mc, rfl, hOm, hBm⟩; have HAm := Lib.hid hOm.at_; replace H5 := Lib.hid (H5.out.step hBm H5.out.lt); replace H3 := Lib.hid (H3.out.step hBm H3.out.lt); replace HBW := Lib.hid (LineM.bstep HBW.out hBm); have t0 := H3.out.c0; have t1 := H3.out.c1; have t2 := H3.out.c2; clear hOm hBm)
                | (go_at_call 8; (with_reducible refine (HRE.out HTE.out _ _ HBW.out HAm.out).mono ?_); rintro e wp ⟨pa, pn, pc, qa, qn, qc, rfl, hAp, hBp, hB9⟩; obtain ⟨pa', pc', ep⟩ := at_form hAp; simp only [Value.slice.injEq] at ep; obtain ⟨rfl, rfl, rfl⟩ := ep; obtain ⟨qa', qc', eq, -⟩ := hBp.open; simp only [Value.slice.injEq] at eq; obtain ⟨rfl, rfl, rfl⟩ := eq; have hst := hB9.trans ((Below.refl wt.heap.size wp).alloc hB9.size (.cells #[.int .i64 a.code, .slice pa (cleanL a.fields).length pc, .slice qa a.body.length qc] 27)); have HAp := Lib.hid (hAp.old ((Below.refl _ _).alloc (Nat.le_refl _) (.cells #[.int .i64 a.code, .slice pa (cleanL a.fields).length pc, .slice qa a.body.length qc] 27))); have HBp := Lib.hid (hBp.below ((Below.refl _ _).alloc (Nat.le_refl _) (.cells #[.int .i64 a.code, .slice pa (cleanL a.fields).length pc, .slice qa a.body.length qc] 27))); have HQ := Lib.hid (Held3.new wp (.int .i64 a.code) (.slice pa (cleanL a.fields).length pc) (.slice qa a.body.length qc) 27); replace H5 := Lib.hid (H5.out.step hst H5.out.lt); replace H3 := Lib.hid (H3.out.step hst H3.out.lt); replace HBW := Lib.hid (LineM.bstep HBW.out hst); have t0 := H3.out.c0; have t1 := H3.out.c1; have t2 := H3.out.c2; clear hAp hBp hB9 hst)
                | (go_at_call 9; (with_reducible refine (HCL.out HTE.out _ _ a.fields HBW.out (HF2.out _ HBW.out) (Or.inl rfl)).mono ?_); rintro e wx ⟨xa, xn, xc, rfl, hOx, hBx⟩; have HAx := Lib.hid hOx.at_; replace HAp := Lib.hid (HAp.out.old hBx); replace HBp := Lib.hid (HBp.out.below hBx); replace HQ := Lib.hid (HQ.out.step hBx HQ.out.lt); replace H5 := Lib.hid (H5.out.step hBx H5.out.lt); replace H3 := Lib.hid (H3.out.step hBx H3.out.lt); replace HBW := Lib.hid (LineM.bstep HBW.out hBx); have t0 := H3.out.c0; have t1 := H3.out.c1; have t2 := H3.out.c2; clear hOx hBx)
                | (go_at_call 9; (with_reducible refine (HCL.out HTE.out _ _ (cleanL a.fields) HBW.out HAx.out (Or.inr rfl)).mono ?_); rintro e wy ⟨ya, yn, yc, rfl, hOy, hBy⟩; have HAy := Lib.hid hOy.at_; replace HAx := Lib.hid (HAx.out.old hBy); replace HAp := Lib.hid (HAp.out.old hBy); replace HBp := Lib.hid (HBp.out.below hBy); replace HQ := Lib.hid (HQ.out.step hBy HQ.out.lt); rw [clean_clean] at HAy; replace H5 := Lib.hid (H5.out.step hBy H5.out.lt); replace H3 := Lib.hid (H3.out.step hBy H3.out.lt); replace HBW := Lib.hid (LineM.bstep HBW.out hBy); have t0 := H3.out.c0; have t1 := H3.out.c1; have t2 := H3.out.c2; have s0 := HQ.out.c0; have s1 := HQ.out.c1; have s2 := HQ.out.c2; have HY := Lib.hid hBy; clear hOy hBy)
                | (go_at_call 10; (with_reducible refine (sameF_any (cleanL a.fields) _ _ _ HAp.out HAx.out).mono ?_); rintro e w5 ⟨rfl, n5, rfl⟩; have hst := below_drewN (Below.refl wy.heap.size wy) n5; generalize wy.drewN n5 = wv at *; replace HAx := Lib.hid (HAx.out.old hst); replace HAy := Lib.hid (HAy.out.old hst); replace HBp := Lib.hid (HBp.out.below hst); replace HQ := Lib.hid (HQ.out.step hst HQ.out.lt); replace H5 := Lib.hid (H5.out.step hst H5.out.lt); replace H3 := Lib.hid (H3.out.step hst H3.out.lt); replace HBW := Lib.hid (LineM.bstep HBW.out hst); clear hst)
                | (go_at_call 10; (with_reducible refine (sameF_any (cleanL a.fields) _ _ _ HAx.out HAy.out).mono ?_); rintro e w5 ⟨rfl, n6, rfl⟩; have hst := below_drewN (Below.refl wv.heap.size wv) n6; generalize wv.drewN n6 = wz at *; replace HBp := Lib.hid (HBp.out.below hst); replace HQ := Lib.hid (HQ.out.step hst HQ.out.lt); replace H5 := Lib.hid (H5.out.step hst H5.out.lt); replace H3 := Lib.hid (H3.out.step hst H3.out.lt); replace HBW := Lib.hid (LineM.bstep HBW.out hst); have t0 := H3.out.c0; have t1 := H3.out.c1; have t2 := H3.out.c2; have s0 := HQ.out.c0; have s1 := HQ.out.c1; have s2 := HQ.out.c2; have cv1 := conv_back HBp.out HZ2.out; have cv2 := conv_back (HY2.out _ HBW.out) HZ2.out; clear hst)
                | fail)
              go_ret
              exact ⟨by simp, HBW.out⟩
            · have HT := Lib.hid (HTB.out htl _ HBW.out)
              clear htl
              go_wp2_with (first
                | (go_at_call 7; (with_reducible refine HT.out.mono ?_); rintro e wt ⟨rfl, hBm⟩; replace HBW := Lib.hid (LineM.bstep HBW.out hBm); clear hBm)
                | fail)
              go_ret
              exact ⟨rfl, HBW.out⟩
          · go_upto_region 22 with (first
              | (go_at_call 5; (with_reducible refine HA1.out.mono ?_); rintro e wq ⟨rfl, hB9⟩; have hst := hB9.trans ((Below.refl wr.heap.size wq).alloc hB9.size (.cells #[.string ⟨#[]⟩, .string ⟨#[]⟩, .string ⟨#[]⟩, .slice none 0 0, .slice none 0 0] 25)); replace H5 := Lib.hid (H5.out.step hst H5.out.lt); replace H3 := Lib.hid (H3.out.step hst H3.out.lt); replace HBW := Lib.hid (LineM.bstep HBW.out hst); clear hB9 hst)
              | fail)
            have t0 := H3.out.c0
            have t1 := H3.out.c1
            have t2 := H3.out.c2
            by_cases htl : tellE a 0 = 0
            · have HT := Lib.hid (HTO.out htl _ HBW.out)
              have HTE := Lib.hid htl
              have HFL := Lib.hid (tell_right htl)
              clear htl
              go_wp2_with (first
                | (go_at_call 7; (with_reducible refine HT.out.mono ?_); rintro e wt ⟨ma, mn, mc, rfl, hOm, hBm⟩; have HAm := Lib.hid hOm.at_; replace H5 := Lib.hid (H5.out.step hBm H5.out.lt); replace H3 := Lib.hid (H3.out.step hBm H3.out.lt); replace HBW := Lib.hid (LineM.bstep HBW.out hBm); have t0 := H3.out.c0; have t1 := H3.out.c1; have t2 := H3.out.c2; clear hOm hBm)
                | (go_at_call 8; (with_reducible refine (HRE.out HTE.out _ _ HBW.out HAm.out).mono ?_); rintro e wp ⟨pa, pn, pc, qa, qn, qc, rfl, hAp, hBp, hB9⟩; obtain ⟨pa', pc', ep⟩ := at_form hAp; simp only [Value.slice.injEq] at ep; obtain ⟨rfl, rfl, rfl⟩ := ep; obtain ⟨qa', qc', eq, -⟩ := hBp.open; simp only [Value.slice.injEq] at eq; obtain ⟨rfl, rfl, rfl⟩ := eq; have hst := hB9.trans ((Below.refl wt.heap.size wp).alloc hB9.size (.cells #[.int .i64 a.code, .slice pa (cleanL a.fields).length pc, .slice qa a.body.length qc] 27)); have HAp := Lib.hid (hAp.old ((Below.refl _ _).alloc (Nat.le_refl _) (.cells #[.int .i64 a.code, .slice pa (cleanL a.fields).length pc, .slice qa a.body.length qc] 27))); have HBp := Lib.hid (hBp.below ((Below.refl _ _).alloc (Nat.le_refl _) (.cells #[.int .i64 a.code, .slice pa (cleanL a.fields).length pc, .slice qa a.body.length qc] 27))); have HQ := Lib.hid (Held3.new wp (.int .i64 a.code) (.slice pa (cleanL a.fields).length pc) (.slice qa a.body.length qc) 27); replace H5 := Lib.hid (H5.out.step hst H5.out.lt); replace H3 := Lib.hid (H3.out.step hst H3.out.lt); replace HBW := Lib.hid (LineM.bstep HBW.out hst); have t0 := H3.out.c0; have t1 := H3.out.c1; have t2 := H3.out.c2; clear hAp hBp hB9 hst)
                | (go_at_call 9; (with_reducible refine (HCL.out HTE.out _ _ a.fields HBW.out (HF2.out _ HBW.out) (Or.inl rfl)).mono ?_); rintro e wx ⟨xa, xn, xc, rfl, hOx, hBx⟩; have HAx := Lib.hid hOx.at_; replace HAp := Lib.hid (HAp.out.old hBx); replace HBp := Lib.hid (HBp.out.below hBx); replace HQ := Lib.hid (HQ.out.step hBx HQ.out.lt); replace H5 := Lib.hid (H5.out.step hBx H5.out.lt); replace H3 := Lib.hid (H3.out.step hBx H3.out.lt); replace HBW := Lib.hid (LineM.bstep HBW.out hBx); have t0 := H3.out.c0; have t1 := H3.out.c1; have t2 := H3.out.c2; clear hOx hBx)
                | (go_at_call 9; (with_reducible refine (HCL.out HTE.out _ _ (cleanL a.fields) HBW.out HAx.out (Or.inr rfl)).mono ?_); rintro e wy ⟨ya, yn, yc, rfl, hOy, hBy⟩; have HAy := Lib.hid hOy.at_; replace HAx := Lib.hid (HAx.out.old hBy); replace HAp := Lib.hid (HAp.out.old hBy); replace HBp := Lib.hid (HBp.out.below hBy); replace HQ := Lib.hid (HQ.out.step hBy HQ.out.lt); rw [clean_clean] at HAy; replace H5 := Lib.hid (H5.out.step hBy H5.out.lt); replace H3 := Lib.hid (H3.out.step hBy H3.out.lt); replace HBW := Lib.hid (LineM.bstep HBW.out hBy); have t0 := H3.out.c0; have t1 := H3.out.c1; have t2 := H3.out.c2; have s0 := HQ.out.c0; have s1 := HQ.out.c1; have s2 := HQ.out.c2; have HY := Lib.hid hBy; clear hOy hBy)
                | (go_at_call 10; (with_reducible refine (sameF_any (cleanL a.fields) _ _ _ HAp.out HAx.out).mono ?_); rintro e w5 ⟨rfl, n5, rfl⟩; have hst := below_drewN (Below.refl wy.heap.size wy) n5; generalize wy.drewN n5 = wv at *; replace HAx := Lib.hid (HAx.out.old hst); replace HAy := Lib.hid (HAy.out.old hst); replace HBp := Lib.hid (HBp.out.below hst); replace HQ := Lib.hid (HQ.out.step hst HQ.out.lt); replace H5 := Lib.hid (H5.out.step hst H5.out.lt); replace H3 := Lib.hid (H3.out.step hst H3.out.lt); replace HBW := Lib.hid (LineM.bstep HBW.out hst); clear hst)
                | (go_at_call 10; (with_reducible refine (sameF_any (cleanL a.fields) _ _ _ HAx.out HAy.out).mono ?_); rintro e w5 ⟨rfl, n6, rfl⟩; have hst := below_drewN (Below.refl wv.heap.size wv) n6; generalize wv.drewN n6 = wz at *; replace HBp := Lib.hid (HBp.out.below hst); replace HQ := Lib.hid (HQ.out.step hst HQ.out.lt); replace H5 := Lib.hid (H5.out.step hst H5.out.lt); replace H3 := Lib.hid (H3.out.step hst H3.out.lt); replace HBW := Lib.hid (LineM.bstep HBW.out hst); have t0 := H3.out.c0; have t1 := H3.out.c1; have t2 := H3.out.c2; have s0 := HQ.out.c0; have s1 := HQ.out.c1; have s2 := HQ.out.c2; have cv1 := conv_back HBp.out HZ2.out; have cv2 := conv_back (HY2.out _ HBW.out) HZ2.out; clear hst)
                | fail)
              go_ret
              exact ⟨by simp, HBW.out⟩
            · have HT := Lib.hid (HTB.out htl _ HBW.out)
              clear htl
              go_wp2_with (first
                | (go_at_call 7; (with_reducible refine HT.out.mono ?_); rintro e wt ⟨rfl, hBm⟩; replace HBW := Lib.hid (LineM.bstep HBW.out hBm); clear hBm)
                | fail)
              go_ret
              exact ⟨rfl, HBW.out⟩
  · have HLR := Lib.hid (HLB.out hk)
    clear hk
    go_enter Tryd.func3, Tryd.ntmps3
    go_upto_region 1 with fail
    rw [HWB.out]
    go_upto_region 22 with (first
      | (go_at_call 4; (with_reducible refine HL0.out.mono ?_); rintro e wc ⟨la, ln, lc, rfl, hOl, hBl⟩; obtain ⟨la', lc', el, -⟩ := hOl.slice; rw [hLn] at el; simp only [Value.slice.injEq] at el; obtain ⟨rfl, rfl, rfl⟩ := el; obtain ⟨lb0, lo0, rfl, -, -, hc4⟩ := at_cell hOl.at_ 4 (by rw [hLn]; decide); have hv4 : (listF cookR)[4]'(by rw [hLn]; decide) = (cookieB, ⟨#[98]⟩) := (by have h := HLC.out; simp [h]); rw [hv4] at hc4; have hst : Below wb.heap.size wb wc := ((Below.refl _ _).alloc (Nat.le_refl _) _).trans (hBl.mono (by simp)); replace H5 := Lib.hid (H5.out.step hst H5.out.lt); replace H3 := Lib.hid (H3.out.step hst H3.out.lt); replace HBW := Lib.hid (LineM.bstep HBW.out hst); have g0 := H5.out.c0; have g1 := H5.out.c1; have g2 := H5.out.c2; have g3 := H5.out.c3; have g4 := H5.out.c4; clear hOl hBl hst)
      | (go_at_call 4; (with_reducible refine (HLR.out _ HBW.out).mono ?_); rintro e wd ⟨rfl, hBd⟩; replace H5 := Lib.hid (H5.out.step hBd H5.out.lt); replace H3 := Lib.hid (H3.out.step hBd H3.out.lt); replace HBW := Lib.hid (LineM.bstep HBW.out hBd); have g0 := H5.out.c0; have g1 := H5.out.c1; have g2 := H5.out.c2; have g3 := H5.out.c3; have g4 := H5.out.c4; clear hBd)
      | fail)
    have t0 := H3.out.c0
    have t1 := H3.out.c1
    have t2 := H3.out.c2
    by_cases htl : tellE a 0 = 0
    · have HT := Lib.hid (HTO.out htl _ HBW.out)
      have HTE := Lib.hid htl
      have HFL := Lib.hid (tell_right htl)
      clear htl
      go_wp2_with (first
        | (go_at_call 7; (with_reducible refine HT.out.mono ?_); rintro e wt ⟨ma, mn, mc, rfl, hOm, hBm⟩; have HAm := Lib.hid hOm.at_; replace H5 := Lib.hid (H5.out.step hBm H5.out.lt); replace H3 := Lib.hid (H3.out.step hBm H3.out.lt); replace HBW := Lib.hid (LineM.bstep HBW.out hBm); have t0 := H3.out.c0; have t1 := H3.out.c1; have t2 := H3.out.c2; clear hOm hBm)
        | (go_at_call 8; (with_reducible refine (HRE.out HTE.out _ _ HBW.out HAm.out).mono ?_); rintro e wp ⟨pa, pn, pc, qa, qn, qc, rfl, hAp, hBp, hB9⟩; obtain ⟨pa', pc', ep⟩ := at_form hAp; simp only [Value.slice.injEq] at ep; obtain ⟨rfl, rfl, rfl⟩ := ep; obtain ⟨qa', qc', eq, -⟩ := hBp.open; simp only [Value.slice.injEq] at eq; obtain ⟨rfl, rfl, rfl⟩ := eq; have hst := hB9.trans ((Below.refl wt.heap.size wp).alloc hB9.size (.cells #[.int .i64 a.code, .slice pa (cleanL a.fields).length pc, .slice qa a.body.length qc] 27)); have HAp := Lib.hid (hAp.old ((Below.refl _ _).alloc (Nat.le_refl _) (.cells #[.int .i64 a.code, .slice pa (cleanL a.fields).length pc, .slice qa a.body.length qc] 27))); have HBp := Lib.hid (hBp.below ((Below.refl _ _).alloc (Nat.le_refl _) (.cells #[.int .i64 a.code, .slice pa (cleanL a.fields).length pc, .slice qa a.body.length qc] 27))); have HQ := Lib.hid (Held3.new wp (.int .i64 a.code) (.slice pa (cleanL a.fields).length pc) (.slice qa a.body.length qc) 27); replace H5 := Lib.hid (H5.out.step hst H5.out.lt); replace H3 := Lib.hid (H3.out.step hst H3.out.lt); replace HBW := Lib.hid (LineM.bstep HBW.out hst); have t0 := H3.out.c0; have t1 := H3.out.c1; have t2 := H3.out.c2; clear hAp hBp hB9 hst)
        | (go_at_call 9; (with_reducible refine (HCL.out HTE.out _ _ a.fields HBW.out (HF2.out _ HBW.out) (Or.inl rfl)).mono ?_); rintro e wx ⟨xa, xn, xc, rfl, hOx, hBx⟩; have HAx := Lib.hid hOx.at_; replace HAp := Lib.hid (HAp.out.old hBx); replace HBp := Lib.hid (HBp.out.below hBx); replace HQ := Lib.hid (HQ.out.step hBx HQ.out.lt); replace H5 := Lib.hid (H5.out.step hBx H5.out.lt); replace H3 := Lib.hid (H3.out.step hBx H3.out.lt); replace HBW := Lib.hid (LineM.bstep HBW.out hBx); have t0 := H3.out.c0; have t1 := H3.out.c1; have t2 := H3.out.c2; clear hOx hBx)
        | (go_at_call 9; (with_reducible refine (HCL.out HTE.out _ _ (cleanL a.fields) HBW.out HAx.out (Or.inr rfl)).mono ?_); rintro e wy ⟨ya, yn, yc, rfl, hOy, hBy⟩; have HAy := Lib.hid hOy.at_; replace HAx := Lib.hid (HAx.out.old hBy); replace HAp := Lib.hid (HAp.out.old hBy); replace HBp := Lib.hid (HBp.out.below hBy); replace HQ := Lib.hid (HQ.out.step hBy HQ.out.lt); rw [clean_clean] at HAy; replace H5 := Lib.hid (H5.out.step hBy H5.out.lt); replace H3 := Lib.hid (H3.out.step hBy H3.out.lt); replace HBW := Lib.hid (LineM.bstep HBW.out hBy); have t0 := H3.out.c0; have t1 := H3.out.c1; have t2 := H3.out.c2; have s0 := HQ.out.c0; have s1 := HQ.out.c1; have s2 := HQ.out.c2; have HY := Lib.hid hBy; clear hOy hBy)
        | (go_at_call 10; (with_reducible refine (sameF_any (cleanL a.fields) _ _ _ HAp.out HAx.out).mono ?_); rintro e w5 ⟨rfl, n5, rfl⟩; have hst := below_drewN (Below.refl wy.heap.size wy) n5; generalize wy.drewN n5 = wv at *; replace HAx := Lib.hid (HAx.out.old hst); replace HAy := Lib.hid (HAy.out.old hst); replace HBp := Lib.hid (HBp.out.below hst); replace HQ := Lib.hid (HQ.out.step hst HQ.out.lt); replace H5 := Lib.hid (H5.out.step hst H5.out.lt); replace H3 := Lib.hid (H3.out.step hst H3.out.lt); replace HBW := Lib.hid (LineM.bstep HBW.out hst); clear hst)
        | (go_at_call 10; (with_reducible refine (sameF_any (cleanL a.fields) _ _ _ HAx.out HAy.out).mono ?_); rintro e w5 ⟨rfl, n6, rfl⟩; have hst := below_drewN (Below.refl wv.heap.size wv) n6; generalize wv.drewN n6 = wz at *; replace HBp := Lib.hid (HBp.out.below hst); replace HQ := Lib.hid (HQ.out.step hst HQ.out.lt); replace H5 := Lib.hid (H5.out.step hst H5.out.lt); replace H3 := Lib.hid (H3.out.step hst H3.out.lt); replace HBW := Lib.hid (LineM.bstep HBW.out hst); have t0 := H3.out.c0; have t1 := H3.out.c1; have t2 := H3.out.c2; have s0 := HQ.out.c0; have s1 := HQ.out.c1; have s2 := HQ.out.c2; have cv1 := conv_back HBp.out HZ2.out; have cv2 := conv_back (HY2.out _ HBW.out) HZ2.out; clear hst)
        | fail)
      go_ret
      exact ⟨by simp, HBW.out⟩
    · have HT := Lib.hid (HTB.out htl _ HBW.out)
      clear htl
      go_wp2_with (first
        | (go_at_call 7; (with_reducible refine HT.out.mono ?_); rintro e wt ⟨rfl, hBm⟩; replace HBW := Lib.hid (LineM.bstep HBW.out hBm); clear hBm)
        | fail)
      go_ret
      exact ⟨rfl, HBW.out⟩
end Go.Proofs.YtooplackonnemaaDoor.WalkFieldsBack
