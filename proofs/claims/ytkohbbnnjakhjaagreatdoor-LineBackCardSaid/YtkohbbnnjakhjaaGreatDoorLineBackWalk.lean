/-
  The walk of the law LineBack: for all requests, replies, sizes, bytes and cuts it returns true and writes nothing that was there.
  Conditions: errors.errorType, math/bits.deBruijn64tab and strconv's powers of ten start as the program's text lays them; the bytes are no longer than memory bears.
-/
import Derived.Test.YtkohbbnnjakhjaaGreatDoorArgs
import Derived.Test.YtkohbbnnjakhjaaGreatDoorMsgArg
import Derived.Test.YtkohbbnnjakhjaaGreatDoorLineBackP
import Derived.Test.YtkohbbnnjakhjaaGreatDoorSame
import Derived.Test.YtkohbbnnjakhjaaGreatDoorTold
import Derived.Deep.Cut
import Derived.Deep.CutRange
namespace Go.Proofs.YtkohbbnnjakhjaaGreatDoor.WalkLineBack
open Go.RowKit RowsK FieldRows LineC LineM BA ToldC HexC ReadC
set_option linter.unusedVariables false
set_option linter.unusedSimpArgs false

theorem stepB {w W W' : World} {cs : Array Value} {B : Nat} (h : HeldQ w W cs) (hB : Below B W W') (hlt : w.heap.size < B) : HeldQ w W' cs :=
  ⟨h.bel.trans (hB.mono (Nat.le_of_lt hlt)), Nat.lt_of_lt_of_le h.lt hB.size, fun i hi => (hB.cell (p := ⟨w.heap.size, i, none⟩) hlt).trans (h.cell i hi)⟩
theorem bd_app {a b : List Int} (ha : ∀ z ∈ a, 0 ≤ z ∧ z ≤ 255) (hb : ∀ z ∈ b, 0 ≤ z ∧ z ≤ 255) : ∀ z ∈ a ++ b, 0 ≤ z ∧ z ≤ 255 := fun z hz => by
  rcases List.mem_append.1 hz with h | h
  · exact ha z h
  · exact hb z h
theorem hexL_bd (n : Nat) : ∀ z ∈ hexL n, 0 ≤ z ∧ z ≤ 255 := by
  induction n using Nat.strongRecOn with
  | ind n ih =>
    intro z hz
    by_cases h : n < 16
    · rw [hexL_small h] at hz
      obtain rfl := List.mem_singleton.1 hz
      exact dig_bd h
    · rw [hexL_big h] at hz
      rcases List.mem_append.1 hz with hz | hz
      · exact ih (n / 16) (by omega) z hz
      · obtain rfl := List.mem_singleton.1 hz
        exact dig_bd (by omega)
theorem askB_bd {r : Rq} (h : ∀ z ∈ r.body, 0 ≤ z ∧ z ≤ 255) : ∀ z ∈ askBytes r, 0 ≤ z ∧ z ≤ 255 := bd_app (intsOf_bd _) h
theorem ask_pos (r : Rq) : 1 ≤ (askBytes r).length := by unfold askBytes askHead; simp only [List.length_append, ReadS.ints_len, List.length_cons, List.length_nil]; omega
theorem tell_pos (r : Rp) (n : Nat) : 1 ≤ (tellBytes r n).length := by
  unfold tellBytes tellHead
  split <;> (simp only [List.length_append, ReadS.ints_len, List.length_cons, List.length_nil]; omega)
theorem ask_both (r : Rq) (vf vb : Value) (w : World) (hf : At encF w vf r.fields) (hb : BytesAt w vb r.body) (hp : Pow10 w) :
    Calls Tryz.prog 5 #[rqV r vf vb] w fun e w' => ∃ (a : Option Addr) (n c : Nat) (ev : Value), e = .returned (.tuple #[.slice a n c, ev]) ∧ Below w.heap.size w w' ∧
      ((askE r = 0 ∧ ev = .nilIface ∧ (askBytes r).length = n ∧ Fresh w' w.heap.size (.slice a n c) (askBytes r)) ∨ (askE r ≠ 0 ∧ ∃ k : Int, ev = .iface 56 (.int .i64 k))) := by
  by_cases h0 : askE r = 0
  · refine (ask_fresh r vf vb w hf hb h0 hp).mono ?_
    rintro e w' ⟨v, rfl, hF, hB⟩
    obtain ⟨a, c, rfl, _⟩ := hF.at.open
    exact ⟨_, _, _, _, rfl, hB, .inl ⟨h0, rfl, rfl, hF⟩⟩
  · refine (ask_bad r vf vb w hf hb h0).mono ?_
    rintro e w' ⟨rfl, hB⟩
    exact ⟨_, _, _, _, rfl, hB, .inr ⟨h0, _, rfl⟩⟩
theorem tell_both (r : Rp) (vf vb : Value) (size : Int) (w : World) (hf : At encF w vf r.fields) (hb : BytesAt w vb r.body) (hp : Pow10 w) (hT : Tab16 w) :
    Calls Tryz.prog 8 #[rpV r vf vb, .int .i64 size] w fun e w' => ∃ (a : Option Addr) (n c : Nat) (ev : Value), e = .returned (.tuple #[.slice a n c, ev]) ∧ Below w.heap.size w w' ∧
      ((tellE r size = 0 ∧ ev = .nilIface ∧ (tellBytes r size.toNat).length = n ∧ Fresh w' w.heap.size (.slice a n c) (tellBytes r size.toNat)) ∨ (tellE r size ≠ 0 ∧ ∃ k : Int, ev = .iface 56 (.int .i64 k))) := by
  by_cases h0 : tellE r size = 0
  · have hs := (tell_right h0).2.2.2
    obtain ⟨n, rfl⟩ : ∃ n : Nat, size = n := ⟨size.toNat, by omega⟩
    have e1 : ((n : Int)).toNat = n := by omega
    rw [e1]
    refine (tell_fresh r vf vb n w hf hb h0 hp hT).mono ?_
    rintro e w' ⟨v, rfl, hF, hB⟩
    obtain ⟨a, c, rfl, _⟩ := hF.at.open
    exact ⟨_, _, _, _, rfl, hB, .inl ⟨h0, rfl, rfl, hF⟩⟩
  · refine (tell_bad r vf vb size w hf hb h0).mono ?_
    rintro e w' ⟨rfl, hB⟩
    exact ⟨_, _, _, _, rfl, hB, .inr ⟨h0, _, rfl⟩⟩
theorem EN_bd {l : List Int} (h : ∀ z ∈ l, 0 ≤ z ∧ z ≤ 255) (sz : Nat) : ∀ z ∈ EN l sz, 0 ≤ z ∧ z ≤ 255 := by
  unfold EN ChunkC.encAll
  refine bd_app (fun z hz => ?_) (by decide)
  obtain ⟨x, hx, hz⟩ := List.mem_flatMap.1 hz
  unfold ChunkI.upto at hx
  obtain ⟨k, _, rfl⟩ := List.mem_map.1 hx
  unfold ChunkC.enc1 at hz
  simp only [List.mem_append] at hz
  rcases hz with ((hz | hz) | hz) | hz
  · exact hexL_bd _ z hz
  · exact (show ∀ z ∈ ([13, 10] : List Int), 0 ≤ z ∧ z ≤ 255 by decide) z hz
  · exact h z (List.mem_of_mem_drop (List.mem_of_mem_take hz))
  · exact (show ∀ z ∈ ([13, 10] : List Int), 0 ≤ z ∧ z ≤ 255 by decide) z hz
theorem tellB_bd {r : Rp} (h : ∀ z ∈ r.body, 0 ≤ z ∧ z ≤ 255) (n : Nat) : ∀ z ∈ tellBytes r n, 0 ≤ z ∧ z ≤ 255 := by
  unfold tellBytes
  split
  · exact bd_app (intsOf_bd _) h
  · exact bd_app (intsOf_bd _) (EN_bd h _)
/-- The first request that the law reads. -/
def rq26 : Rq := ⟨⟨#[71, 69, 84]⟩, ⟨#[47, 97]⟩, ⟨#[104]⟩, [], []⟩
def L26 : List Int := [71, 69, 84, 32, 47, 97, 32, 69, 68, 71, 69, 47, 49, 13, 10, 104, 111, 115, 116, 58, 32, 104, 13, 10, 13, 10]
theorem rq26_ok : askE rq26 = 0 := by
  unfold askE
  rw [emp_list]
  decide +kernel
theorem rq26_bytes : askBytes rq26 = L26 := by decide +kernel
theorem read26 {v : Value} {w : World} (h : BytesAt w v L26) : Calls Tryz.prog 4 #[v] w fun e w' => ∃ (a : Option Addr) (n c : Nat) (a2 : Option Addr) (n2 c2 : Nat), e = .returned (.tuple #[.agg #[.string ⟨#[71, 69, 84]⟩, .string ⟨#[47, 97]⟩, .string ⟨#[104]⟩, .slice a n c, .slice a2 n2 c2], .int .i64 26, .nilIface]) ∧ Below w.heap.size w w' := by
  have h1 := readAsk_told (r := rq26) (rest := []) (v := v) (w := w) (L := 26) (by rw [rq26_bytes, List.append_nil]; exact h) (by rw [rq26_bytes, List.append_nil]; decide) (by rw [rq26_bytes, List.append_nil]; decide) rq26_ok (by rw [rq26_bytes]; rfl)
  refine h1.mono ?_
  rintro e w' ⟨a, n, c, a2, n2, c2, rfl, _, _, hB⟩
  exact ⟨a, n, c, a2, n2, c2, rfl, hB⟩
set_option maxRecDepth 100000 in
theorem slice_head (a : Option Addr) (L cap m : Nat) (h : m ≤ cap) (W : World) :
    (Instr.slice 23 (.slice a L cap) none (some (.int .i64 (m : Int))) none).run Tryz.prog W = .ok (.slice a m cap) W := by
  have hu : Tryz.prog.underlying 23 = some (.slice (Tryz.prog.elem 23)) := Tryz.underlying23
  have hs : (sizeOf (Tryz.prog.elem 23)).run Tryz.prog W = .ok 1 W := by kernel_rfl
  rw [run_slice_h (P := Tryz.prog) W 23 a L cap hu .i64 (m : Int) (by omega) (by omega), hs]
  simp only [Result.andThen, sliced]
  have e1 : ((m : Int)).toNat = m := by omega
  rw [e1]
  cases a with
  | none => simp
  | some x => cases x; simp [Addr.add]
/-- What lies in the two boxes. -/
def Two (w W : World) (cq cp : Array Value) (t : TypeId) : Prop := HeldQ w W cq ∧ HeldQ (w.alloc (.cells cq t)) W cp
set_option maxRecDepth 100000 in
set_option maxHeartbeats 16000000 in
theorem walk (r : Rq) (vf vb : Value) (a : Rp) (vf2 vb2 : Value) (size : Int) (v : Value) (b : List Int) (ct : Int) (w : World) (hr : RqAt w vf vb r) (ha : RpAt w vf2 vb2 a) (hsz : Args.I64 size) (hb : Args.BytesAt w v b) (hct : Args.I64 ct) (hT : Tab16 w) (hp : Pow10 w)
    (hg : w.cell? ⟨0, 0, none⟩ = some (.iface 124 (.agg #[.pointer (some ⟨7, 29, none⟩)]))) (hbl : b.length ≤ 140737488351232) :
    Calls Tryz.prog 3 #[rqV r vf vb, rpV a vf2 vb2, .int .i64 size, v, .int .i64 ct] w fun e w' => e = .returned (.bool true) ∧ Below w.heap.size w w' := by
  obtain ⟨hb, hbz⟩ := hb
  obtain ⟨vva, vvn, vvc, rfl, hvn⟩ : ∃ x n c, v = .slice x n c ∧ b.length = n := by obtain ⟨x, c, h, _⟩ := hb.open; exact ⟨_, _, _, h, rfl⟩
  obtain ⟨vfa, vfn, vfc, rfl⟩ : ∃ x n c, vf = .slice x n c := by obtain ⟨x, c, h, _⟩ := hr.fs.1; exact ⟨_, _, _, h⟩
  obtain ⟨vba, vbn, vbc, rfl⟩ : ∃ x n c, vb = .slice x n c := by obtain ⟨x, c, h, _⟩ := hr.bs.1.open; exact ⟨_, _, _, h⟩
  obtain ⟨v2a, v2n, v2c, rfl⟩ : ∃ x n c, vf2 = .slice x n c := by obtain ⟨x, c, h, _⟩ := ha.fs.1; exact ⟨_, _, _, h⟩
  obtain ⟨v3a, v3n, v3c, rfl⟩ : ∃ x n c, vb2 = .slice x n c := by obtain ⟨x, c, h, _⟩ := ha.bs.1.open; exact ⟨_, _, _, h⟩
  have HGc : ∀ W', Below w.heap.size w W' → W'.cell? ⟨0, 0, none⟩ = some (.iface 124 (.agg #[.pointer (some ⟨7, 29, none⟩)])) := fun W' hB => (hB.cell (p := ⟨0, 0, none⟩) (block_lt_of_cell hg)).trans hg
  have HE8 : Hid (∀ W, Below w.heap.size w W → Calls Tryz.prog 6 #[.iface 56 (.int .i64 8), .int .i64 8] W fun e W' => e = .returned (.bool true) ∧ Below W.heap.size W W') := (fun W hB => (error_any (.err 8) 8 W (HGc W hB)).mono fun e w' h => ⟨by rw [h.1]; simp, h.2⟩)
  have HBY := Lib.hid (fun (W : World) (hW : Below w.heap.size w W) => hb.below hW)
  have HASK := Lib.hid (fun (W : World) (hW : Below w.heap.size w W) => ask_both r (.slice vfa vfn vfc) (.slice vba vbn vbc) W (hr.fs.1.old hW) (hr.bs.1.below hW) (hp.old hW))
  have HTEL := Lib.hid (fun (W : World) (hW : Below w.heap.size w W) => tell_both a (.slice v2a v2n v2c) (.slice v3a v3n v3c) size W (ha.fs.1.old hW) (ha.bs.1.below hW) (hp.old hW) (hT.below hW hT.2))
  have HBACK := Lib.hid (fun (W : World) (hW : Below w.heap.size w W) => readAsk_back (hb.below hW) hbz (by omega))
  have HSQ := Lib.hid (fun (W : World) (va vb : Value) (hW : Below w.heap.size w W) (h1 : At encF W va r.fields) (h2 : BytesAt W vb r.body) => SameC.sameR_any r va vb (.slice vfa vfn vfc) (.slice vba vbn vbc) W h1 (hr.fs.1.old hW) h2 (hr.bs.1.below hW) hr.bs.2)
  have HSP := Lib.hid (fun (W : World) (va vb : Value) (hW : Below w.heap.size w W) (h1 : At encF W va a.fields) (h2 : BytesAt W vb a.body) => SameC.sameP_any a va vb (.slice v2a v2n v2c) (.slice v3a v3n v3c) W h1 (ha.fs.1.old hW) h2 (ha.bs.1.below hW) ha.bs.2)
  have HA2 := Lib.hid (fun (q : Rq) (W : World) (va vb : Value) (hW : Below w.heap.size w W) (h1 : At encF W va q.fields) (h2 : BytesAt W vb q.body) (h0 : askE q = 0) => ask_ok q va vb W h1 h2 h0 (hp.old hW))
  have HQZ := Lib.hid (askB_bd hr.bs.2)
  have HPZ := Lib.hid (tellB_bd ha.bs.2)
  have HBZ := Lib.hid hbz
  have HBN := Lib.hid hvn
  have HBL := Lib.hid hbl
  have HS : Hid (HeldQ w ((w.alloc (.cells #[.string r.method, .string r.path, .string r.host, .slice vfa vfn vfc, .slice vba vbn vbc] 25)).alloc (.cells #[.int .i64 a.code, .slice v2a v2n v2c, .slice v3a v3n v3c] 27)) #[.string r.method, .string r.path, .string r.host, .slice vfa vfn vfc, .slice vba vbn vbc]) := (HeldQ.new w #[.string r.method, .string r.path, .string r.host, .slice vfa vfn vfc, .slice vba vbn vbc] 25).step ((Below.refl _ _).alloc (Nat.le_refl _) _)
  have HR : Hid (HeldQ (w.alloc (.cells #[.string r.method, .string r.path, .string r.host, .slice vfa vfn vfc, .slice vba vbn vbc] 25)) ((w.alloc (.cells #[.string r.method, .string r.path, .string r.host, .slice vfa vfn vfc, .slice vba vbn vbc] 25)).alloc (.cells #[.int .i64 a.code, .slice v2a v2n v2c, .slice v3a v3n v3c] 27)) #[.int .i64 a.code, .slice v2a v2n v2c, .slice v3a v3n v3c]) := HeldQ.new (w.alloc (.cells #[.string r.method, .string r.path, .string r.host, .slice vfa vfn vfc, .slice vba vbn vbc] 25)) #[.int .i64 a.code, .slice v2a v2n v2c, .slice v3a v3n v3c] 27
  rw [hvn] at hbl
  unfold rqV rpV at *
  clear hr ha hbz hvn hT hp hg HGc hb
  obtain ⟨tot, htot⟩ : ∃ t : Prop, t := ⟨True, trivial⟩
  go_enter Tryz.func3, Tryz.ntmps3
  go_upto_region 1 with fail
  have HN1 : Hid ((w.alloc (.cells #[.string r.method, .string r.path, .string r.host, .slice vfa vfn vfc, .slice vba vbn vbc] 25)).heap.size = w.heap.size + 1) := by show _ = _; simp
  generalize (w.alloc (.cells #[.string r.method, .string r.path, .string r.host, .slice vfa vfn vfc, .slice vba vbn vbc] 25)).alloc (.cells #[.int .i64 a.code, .slice v2a v2n v2c, .slice v3a v3n v3c] 27) = W1 at *
  obtain ⟨WF, hcv, hBF, hYF⟩ := fact_bytes L26 (by decide) W1
  have hcv' : (convert 23 23 (.slice (some ⟨W1.heap.size, 0, none⟩) 26 26)).run Tryz.prog (W1.alloc (.cells #[.int .u8 71, .int .u8 69, .int .u8 84, .int .u8 32, .int .u8 47, .int .u8 97, .int .u8 32, .int .u8 69, .int .u8 68, .int .u8 71, .int .u8 69, .int .u8 47, .int .u8 49, .int .u8 13, .int .u8 10, .int .u8 104, .int .u8 111, .int .u8 115, .int .u8 116, .int .u8 58, .int .u8 32, .int .u8 104, .int .u8 13, .int .u8 10, .int .u8 13, .int .u8 10] 5)) = .ok (.slice (some ⟨W1.heap.size, 0, none⟩) 26 26) WF := hcv
  have HF : Hid (Calls Tryz.prog 4 #[.slice (some ⟨W1.heap.size, 0, none⟩) 26 26] WF fun e w' => ∃ (a : Option Addr) (n c : Nat) (a2 : Option Addr) (n2 c2 : Nat), e = .returned (.tuple #[.agg #[.string ⟨#[71, 69, 84]⟩, .string ⟨#[47, 97]⟩, .string ⟨#[104]⟩, .slice a n c, .slice a2 n2 c2], .int .i64 26, .nilIface]) ∧ Below WF.heap.size WF w') := read26 hYF
  have HBF := Lib.hid hBF
  have g0 := HS.out.cell 0 (by simp); simp at g0; have g1 := HS.out.cell 1 (by simp); simp at g1; have g2 := HS.out.cell 2 (by simp); simp at g2; have g3 := HS.out.cell 3 (by simp); simp at g3; have g4 := HS.out.cell 4 (by simp); simp at g4; have k0 := HR.out.cell 0 (by simp); simp at k0; have k1 := HR.out.cell 1 (by simp); simp at k1; have k2 := HR.out.cell 2 (by simp); simp at k2
  clear hcv hBF hYF
  go_upto_region 4 with (first
    | (go_at_call 4; (with_reducible refine HF.out.mono ?_); rintro e w1 ⟨fa, fn, fc, ba, bn, bc, rfl, hB⟩; have HB1 := Lib.hid (HBF.out.trans (hB.mono HBF.out.size)); clear hB))
  have hal := HB1.out.trans (((Below.refl w1.heap.size w1).alloc (Nat.le_refl _) (.cells #[.string ⟨#[71, 69, 84]⟩, .string ⟨#[47, 97]⟩, .string ⟨#[104]⟩, .slice fa fn fc, .slice ba bn bc] 25)).mono HB1.out.size)
  generalize w1.alloc (.cells #[.string ⟨#[71, 69, 84]⟩, .string ⟨#[47, 97]⟩, .string ⟨#[104]⟩, .slice fa fn fc, .slice ba bn bc] 25) = W2 at *
  replace HS := Lib.hid (HS.out.step hal); replace HR := Lib.hid (HR.out.step hal); replace g0 := HS.out.cell 0 (by simp); simp at g0; replace g1 := HS.out.cell 1 (by simp); simp at g1; replace g2 := HS.out.cell 2 (by simp); simp at g2; replace g3 := HS.out.cell 3 (by simp); simp at g3; replace g4 := HS.out.cell 4 (by simp); simp at g4; replace k0 := HR.out.cell 0 (by simp); simp at k0; replace k1 := HR.out.cell 1 (by simp); simp at k1; replace k2 := HR.out.cell 2 (by simp); simp at k2
  clear hal hcv' HF HBF HB1

  have HL1 := Lib.hid HS.out.lt
  have HL2 := Lib.hid HR.out.lt
  obtain ⟨B0, hB0⟩ : ∃ B0, W2.heap.size = B0 := ⟨_, rfl⟩
  have HB0 := Lib.hid (Nat.le_of_eq hB0.symm)
  rw [hB0] at HL1 HL2
  have HBE := Lib.hid hB0
  clear hB0
  go_upto_region 5 with (first
    | (go_at_call 5; (with_reducible refine (HASK.out _ HS.out.bel).mono ?_); rintro e w3 ⟨ax, nx, cx, ev, rfl, hB, hcs⟩; have HCS := Lib.hid hcs; replace HB0 := Lib.hid (Nat.le_trans HB0.out hB.size); replace HS := Lib.hid (HS.out.step hB); replace HR := Lib.hid (HR.out.step hB); replace g0 := HS.out.cell 0 (by simp); simp at g0; replace g1 := HS.out.cell 1 (by simp); simp at g1; replace g2 := HS.out.cell 2 (by simp); simp at g2; replace g3 := HS.out.cell 3 (by simp); simp at g3; replace g4 := HS.out.cell 4 (by simp); simp at g4; replace k0 := HR.out.cell 0 (by simp); simp at k0; replace k1 := HR.out.cell 1 (by simp); simp at k1; replace k2 := HR.out.cell 2 (by simp); simp at k2; clear hcs hB))
  rw [HBE.out] at HCS
  clear HBE
  go_cut [72] from 16 (fun c wx => c = .bool (decide (askE r = 0 ∧ nx < 20000)) ∧ w3 = wx)
  case first => as_aux_lemma =>
    rcases HCS.out with ⟨h1, rfl, h2, h3⟩ | ⟨h1, kk, rfl⟩
    · have H1 := Lib.hid h1
      clear h1 h2 h3
      by_cases hn : nx < 20000
      · have hnI : (nx : Int) < 20000 := by omega
        go_wp2_with fail
        go_meet
        case rel => exact ⟨by rw [decide_eq_true ⟨H1.out, hn⟩], rfl⟩
      · have hnI : ¬ (nx : Int) < 20000 := by omega
        go_wp2_with fail
        go_meet
        case rel => exact ⟨by rw [decide_eq_false (fun h => hn h.2)], rfl⟩
    · have H1 := Lib.hid h1
      clear h1
      go_wp2_with fail
      go_meet
      case rel => exact ⟨by rw [decide_eq_false (fun h => H1.out h.1)], rfl⟩
  case rest =>
  obtain ⟨rfl, rfl⟩ := hcut
  obtain ⟨bq, hbq⟩ : ∃ bq, decide (askE r = 0 ∧ nx < 20000) = bq := ⟨_, rfl⟩
  have HBQ := Lib.hid hbq
  rw [hbq]
  clear hbq
  go_upto_if 72 with fail
  go_cut [] from 7 (fun wx => Hid (Two w wx #[.string r.method, .string r.path, .string r.host, .slice vfa vfn vfc, .slice vba vbn vbc] #[.int .i64 a.code, .slice v2a v2n v2c, .slice v3a v3n v3c] 25))
  case first => as_aux_lemma =>
    rcases bq with _ | _
    · go_wp2_with fail
      go_meet
      case rel => exact ⟨HS.out, HR.out⟩
    · have hq := of_decide_eq_true HBQ.out
      obtain ⟨h1, hn⟩ := hq
      have H1 := Lib.hid h1
      have hHC : Hid ((askBytes r).length = nx ∧ Fresh w3 B0 (.slice ax nx cx) (askBytes r)) := by
        rcases HCS.out with ⟨_, _, h2, h3⟩ | ⟨h2, _⟩
        · exact ⟨h2, h3⟩
        · exact absurd h1 h2
      clear h1
      have HLN := Lib.hid hHC.out.1
      have HFX := Lib.hid hHC.out.2
      obtain ⟨gx, cx', hex, hle⟩ := HFX.out.form (ask_pos r)
      simp only [Value.slice.injEq] at hex
      obtain ⟨rfl, -, rfl⟩ := hex
      rw [HLN.out] at hle
      have hnI : (nx : Int) < 20000 := by omega
      have HAPL : Hid ((askBytes r).length + b.length ≤ 140737488355328 + 1000000000) := by show _ ≤ _; rw [HLN.out, HBN.out]; omega
      have HAPM : Hid ((askBytes r ++ b).length ≤ 140737588355328) := by show _ ≤ _; rw [List.length_append, HLN.out, HBN.out]; omega
      clear hHC HCS HBQ
      by_cases hin : 0 ≤ ct ∧ ct < (nx : Int)
      · as_aux_lemma =>
        obtain ⟨c, rfl⟩ : ∃ c : Nat, ct = c := ⟨ct.toNat, by omega⟩
        obtain ⟨hin1, hin2⟩ := hin
        have hcn : c < nx := by omega
        go_upto_region 8 with (first
          | (go_at_call 4; (with_reducible refine (readAsk_cut (cut := c) (bytesAt_take (by have h := HFX.out.at; exact h) c (by rw [HLN.out]; omega)) HQZ.out H1.out (by rw [HLN.out]; exact hcn) (by rw [HLN.out]; omega)).mono ?_); rintro e w4 ⟨rfl, hB⟩; replace HFX := Lib.hid (HFX.out.below hB); replace HB0 := Lib.hid (Nat.le_trans HB0.out hB.size); replace HS := Lib.hid (HS.out.step hB); replace HR := Lib.hid (HR.out.step hB); replace g0 := HS.out.cell 0 (by simp); simp at g0; replace g1 := HS.out.cell 1 (by simp); simp at g1; replace g2 := HS.out.cell 2 (by simp); simp at g2; replace g3 := HS.out.cell 3 (by simp); simp at g3; replace g4 := HS.out.cell 4 (by simp); simp at g4; replace k0 := HR.out.cell 0 (by simp); simp at k0; replace k1 := HR.out.cell 1 (by simp); simp at k1; replace k2 := HR.out.cell 2 (by simp); simp at k2; clear hB))
        have hal := (Below.refl w4.heap.size w4).alloc (Nat.le_refl _) (.cells #[.string ⟨#[]⟩, .string ⟨#[]⟩, .string ⟨#[]⟩, .slice none 0 0, .slice none 0 0] 25)
        generalize w4.alloc (.cells #[.string ⟨#[]⟩, .string ⟨#[]⟩, .string ⟨#[]⟩, .slice none 0 0, .slice none 0 0] 25) = W4 at *
        replace HFX := Lib.hid (HFX.out.below hal)
        replace HB0 := Lib.hid (Nat.le_trans HB0.out hal.size)
        replace HS := Lib.hid (HS.out.step hal)
        replace HR := Lib.hid (HR.out.step hal)
        replace g0 := HS.out.cell 0 (by simp)
        simp at g0
        replace g1 := HS.out.cell 1 (by simp)
        simp at g1
        replace g2 := HS.out.cell 2 (by simp)
        simp at g2
        replace g3 := HS.out.cell 3 (by simp)
        simp at g3
        replace g4 := HS.out.cell 4 (by simp)
        simp at g4
        replace k0 := HR.out.cell 0 (by simp)
        simp at k0
        replace k1 := HR.out.cell 1 (by simp)
        simp at k1
        replace k2 := HR.out.cell 2 (by simp)
        simp at k2
        clear hal
        go_upto_region 11 with (first
          | (go_at_call 6; (with_reducible refine (HE8.out _ HS.out.bel).mono ?_); rintro e w5 ⟨rfl, hB⟩; replace HFX := Lib.hid (HFX.out.below hB); replace HB0 := Lib.hid (Nat.le_trans HB0.out hB.size); replace HS := Lib.hid (HS.out.step hB); replace HR := Lib.hid (HR.out.step hB); replace g0 := HS.out.cell 0 (by simp); simp at g0; replace g1 := HS.out.cell 1 (by simp); simp at g1; replace g2 := HS.out.cell 2 (by simp); simp at g2; replace g3 := HS.out.cell 3 (by simp); simp at g3; replace g4 := HS.out.cell 4 (by simp); simp at g4; replace k0 := HR.out.cell 0 (by simp); simp at k0; replace k1 := HR.out.cell 1 (by simp); simp at k1; replace k2 := HR.out.cell 2 (by simp); simp at k2; clear hB))
        go_upto_region 12 with fail
        go_upto_region 13 with (first
          | (at_builtin; refine wpList_append_freshF rfl _ _ rfl B0 _ _ rfl HFX.out _ _ rfl (HBY.out _ HS.out.bel) HAPL.out HB0.out ?_; intro v6 w6 hF6 hB; have HX := Lib.hid hF6.at; obtain ⟨a6, n6, c6, rfl⟩ : ∃ x n c, v6 = .slice x n c := (by obtain ⟨x, c, h, -⟩ := hF6.at.open; exact ⟨_, _, _, h⟩); replace HS := Lib.hid (stepB HS.out hB HL1.out); replace HR := Lib.hid (stepB HR.out hB HL2.out); replace g0 := HS.out.cell 0 (by simp); simp at g0; replace g1 := HS.out.cell 1 (by simp); simp at g1; replace g2 := HS.out.cell 2 (by simp); simp at g2; replace g3 := HS.out.cell 3 (by simp); simp at g3; replace g4 := HS.out.cell 4 (by simp); simp at g4; replace k0 := HR.out.cell 0 (by simp); simp at k0; replace k1 := HR.out.cell 1 (by simp); simp at k1; replace k2 := HR.out.cell 2 (by simp); simp at k2; clear hF6 hB))
        go_upto_region 14 with (first
          | (go_at_call 4; (with_reducible refine (readAsk_told HX.out (bd_app HQZ.out HBZ.out) HAPM.out H1.out HLN.out).mono ?_); rintro e w7 ⟨fa, fn, fc, ba, bn, bc, rfl, hAt, hBt, hB⟩; have HAT := Lib.hid hAt; have HBT := Lib.hid hBt; replace HS := Lib.hid (HS.out.step hB); replace HR := Lib.hid (HR.out.step hB); replace g0 := HS.out.cell 0 (by simp); simp at g0; replace g1 := HS.out.cell 1 (by simp); simp at g1; replace g2 := HS.out.cell 2 (by simp); simp at g2; replace g3 := HS.out.cell 3 (by simp); simp at g3; replace g4 := HS.out.cell 4 (by simp); simp at g4; replace k0 := HR.out.cell 0 (by simp); simp at k0; replace k1 := HR.out.cell 1 (by simp); simp at k1; replace k2 := HR.out.cell 2 (by simp); simp at k2; clear hAt hBt hB))
        have hal := (Below.refl w7.heap.size w7).alloc (Nat.le_refl _) (.cells #[.string r.method, .string r.path, .string r.host, .slice fa fn fc, .slice ba bn bc] 25)
        replace HAT := Lib.hid (HAT.out.old hal)
        replace HBT := Lib.hid (HBT.out.below hal)
        have m0 : ∀ i, (w7.alloc (.cells #[.string r.method, .string r.path, .string r.host, .slice fa fn fc, .slice ba bn bc] 25)).cell? ⟨w7.heap.size, i, none⟩ = ( #[.string r.method, .string r.path, .string r.host, .slice fa fn fc, .slice ba bn bc] : Array Value)[i]? := fun i => by simp
        have m00 := m0 0
        have m01 := m0 1
        have m02 := m0 2
        have m03 := m0 3
        have m04 := m0 4
        simp only [List.getElem?_toArray, List.getElem?_cons_zero, List.getElem?_cons_succ] at m00 m01 m02 m03 m04
        clear m0
        generalize w7.alloc (.cells #[.string r.method, .string r.path, .string r.host, .slice fa fn fc, .slice ba bn bc] 25) = W7 at *
        replace HS := Lib.hid (HS.out.step hal)
        replace HR := Lib.hid (HR.out.step hal)
        replace g0 := HS.out.cell 0 (by simp)
        simp at g0
        replace g1 := HS.out.cell 1 (by simp)
        simp at g1
        replace g2 := HS.out.cell 2 (by simp)
        simp at g2
        replace g3 := HS.out.cell 3 (by simp)
        simp at g3
        replace g4 := HS.out.cell 4 (by simp)
        simp at g4
        replace k0 := HR.out.cell 0 (by simp)
        simp at k0
        replace k1 := HR.out.cell 1 (by simp)
        simp at k1
        replace k2 := HR.out.cell 2 (by simp)
        simp at k2
        clear hal
        go_wp2_with (first
          | (go_at_call 7; (with_reducible refine (HSQ.out _ _ _ HS.out.bel HAT.out HBT.out).mono ?_); rintro e w8 ⟨rfl, hB⟩; replace HS := Lib.hid (HS.out.step hB); replace HR := Lib.hid (HR.out.step hB); replace g0 := HS.out.cell 0 (by simp); simp at g0; replace g1 := HS.out.cell 1 (by simp); simp at g1; replace g2 := HS.out.cell 2 (by simp); simp at g2; replace g3 := HS.out.cell 3 (by simp); simp at g3; replace g4 := HS.out.cell 4 (by simp); simp at g4; replace k0 := HR.out.cell 0 (by simp); simp at k0; replace k1 := HR.out.cell 1 (by simp); simp at k1; replace k2 := HR.out.cell 2 (by simp); simp at k2; clear hB))
        go_meet
        case rel => exact ⟨HS.out, HR.out⟩
      · as_aux_lemma =>
        have hcase : ¬ 0 ≤ ct ∨ (0 ≤ ct ∧ ¬ ct < (nx : Int)) := by omega
        clear hin
        rcases hcase with hin1 | ⟨hin1, hin2⟩
        all_goals
          go_upto_region 12 with fail
          go_upto_region 13 with (first
            | (at_builtin; refine wpList_append_freshF rfl _ _ rfl B0 _ _ rfl HFX.out _ _ rfl (HBY.out _ HS.out.bel) HAPL.out HB0.out ?_; intro v6 w6 hF6 hB; have HX := Lib.hid hF6.at; obtain ⟨a6, n6, c6, rfl⟩ : ∃ x n c, v6 = .slice x n c := (by obtain ⟨x, c, h, -⟩ := hF6.at.open; exact ⟨_, _, _, h⟩); replace HS := Lib.hid (stepB HS.out hB HL1.out); replace HR := Lib.hid (stepB HR.out hB HL2.out); replace g0 := HS.out.cell 0 (by simp); simp at g0; replace g1 := HS.out.cell 1 (by simp); simp at g1; replace g2 := HS.out.cell 2 (by simp); simp at g2; replace g3 := HS.out.cell 3 (by simp); simp at g3; replace g4 := HS.out.cell 4 (by simp); simp at g4; replace k0 := HR.out.cell 0 (by simp); simp at k0; replace k1 := HR.out.cell 1 (by simp); simp at k1; replace k2 := HR.out.cell 2 (by simp); simp at k2; clear hF6 hB))
          go_upto_region 14 with (first
            | (go_at_call 4; (with_reducible refine (readAsk_told HX.out (bd_app HQZ.out HBZ.out) HAPM.out H1.out HLN.out).mono ?_); rintro e w7 ⟨fa, fn, fc, ba, bn, bc, rfl, hAt, hBt, hB⟩; have HAT := Lib.hid hAt; have HBT := Lib.hid hBt; replace HS := Lib.hid (HS.out.step hB); replace HR := Lib.hid (HR.out.step hB); replace g0 := HS.out.cell 0 (by simp); simp at g0; replace g1 := HS.out.cell 1 (by simp); simp at g1; replace g2 := HS.out.cell 2 (by simp); simp at g2; replace g3 := HS.out.cell 3 (by simp); simp at g3; replace g4 := HS.out.cell 4 (by simp); simp at g4; replace k0 := HR.out.cell 0 (by simp); simp at k0; replace k1 := HR.out.cell 1 (by simp); simp at k1; replace k2 := HR.out.cell 2 (by simp); simp at k2; clear hAt hBt hB))
          have hal := (Below.refl w7.heap.size w7).alloc (Nat.le_refl _) (.cells #[.string r.method, .string r.path, .string r.host, .slice fa fn fc, .slice ba bn bc] 25)
          replace HAT := Lib.hid (HAT.out.old hal)
          replace HBT := Lib.hid (HBT.out.below hal)
          have m0 : ∀ i, (w7.alloc (.cells #[.string r.method, .string r.path, .string r.host, .slice fa fn fc, .slice ba bn bc] 25)).cell? ⟨w7.heap.size, i, none⟩ = ( #[.string r.method, .string r.path, .string r.host, .slice fa fn fc, .slice ba bn bc] : Array Value)[i]? := fun i => by simp
          have m00 := m0 0
          have m01 := m0 1
          have m02 := m0 2
          have m03 := m0 3
          have m04 := m0 4
          simp only [List.getElem?_toArray, List.getElem?_cons_zero, List.getElem?_cons_succ] at m00 m01 m02 m03 m04
          clear m0
          generalize w7.alloc (.cells #[.string r.method, .string r.path, .string r.host, .slice fa fn fc, .slice ba bn bc] 25) = W7 at *
          replace HS := Lib.hid (HS.out.step hal)
          replace HR := Lib.hid (HR.out.step hal)
          replace g0 := HS.out.cell 0 (by simp)
          simp at g0
          replace g1 := HS.out.cell 1 (by simp)
          simp at g1
          replace g2 := HS.out.cell 2 (by simp)
          simp at g2
          replace g3 := HS.out.cell 3 (by simp)
          simp at g3
          replace g4 := HS.out.cell 4 (by simp)
          simp at g4
          replace k0 := HR.out.cell 0 (by simp)
          simp at k0
          replace k1 := HR.out.cell 1 (by simp)
          simp at k1
          replace k2 := HR.out.cell 2 (by simp)
          simp at k2
          clear hal
          go_wp2_with (first
            | (go_at_call 7; (with_reducible refine (HSQ.out _ _ _ HS.out.bel HAT.out HBT.out).mono ?_); rintro e w8 ⟨rfl, hB⟩; replace HS := Lib.hid (HS.out.step hB); replace HR := Lib.hid (HR.out.step hB); replace g0 := HS.out.cell 0 (by simp); simp at g0; replace g1 := HS.out.cell 1 (by simp); simp at g1; replace g2 := HS.out.cell 2 (by simp); simp at g2; replace g3 := HS.out.cell 3 (by simp); simp at g3; replace g4 := HS.out.cell 4 (by simp); simp at g4; replace k0 := HR.out.cell 0 (by simp); simp at k0; replace k1 := HR.out.cell 1 (by simp); simp at k1; replace k2 := HR.out.cell 2 (by simp); simp at k2; clear hB))
          go_meet
          case rel => exact ⟨HS.out, HR.out⟩

  case rest =>
  have HS := Lib.hid hcut.out.1
  have HR := Lib.hid hcut.out.2
  replace g0 := HS.out.cell 0 (by simp); simp at g0; replace g1 := HS.out.cell 1 (by simp); simp at g1; replace g2 := HS.out.cell 2 (by simp); simp at g2; replace g3 := HS.out.cell 3 (by simp); simp at g3; replace g4 := HS.out.cell 4 (by simp); simp at g4; replace k0 := HR.out.cell 0 (by simp); simp at k0; replace k1 := HR.out.cell 1 (by simp); simp at k1; replace k2 := HR.out.cell 2 (by simp); simp at k2
  clear hcut

  obtain ⟨W2, hW2⟩ : ∃ W2 : World, W2 = wc := ⟨_, rfl⟩
  subst hW2
  clear HB0 HL1 HL2 HCS HBQ
  have HL1 := Lib.hid HS.out.lt
  have HL2 := Lib.hid HR.out.lt
  obtain ⟨B0, hB0⟩ : ∃ B0, W2.heap.size = B0 := ⟨_, rfl⟩
  have HB0 := Lib.hid (Nat.le_of_eq hB0.symm)
  rw [hB0] at HL1 HL2
  have HBE := Lib.hid hB0
  clear hB0
  go_upto_region 18 with (first
    | (go_at_call 8; (with_reducible refine (HTEL.out _ HS.out.bel).mono ?_); rintro e w3 ⟨ax, nx, cx, ev, rfl, hB, hcs⟩; have HCS := Lib.hid hcs; replace HB0 := Lib.hid (Nat.le_trans HB0.out hB.size); replace HS := Lib.hid (HS.out.step hB); replace HR := Lib.hid (HR.out.step hB); replace g0 := HS.out.cell 0 (by simp); simp at g0; replace g1 := HS.out.cell 1 (by simp); simp at g1; replace g2 := HS.out.cell 2 (by simp); simp at g2; replace g3 := HS.out.cell 3 (by simp); simp at g3; replace g4 := HS.out.cell 4 (by simp); simp at g4; replace k0 := HR.out.cell 0 (by simp); simp at k0; replace k1 := HR.out.cell 1 (by simp); simp at k1; replace k2 := HR.out.cell 2 (by simp); simp at k2; clear hcs hB))
  rw [HBE.out] at HCS
  clear HBE
  go_cut [145] from 26 (fun c wx => c = .bool (decide (tellE a size = 0 ∧ nx < 20000 ∧ 200 ≤ a.code ∧ a.code ≠ 204 ∧ a.code ≠ 304)) ∧ w3 = wx)
  case first => as_aux_lemma =>
    rcases HCS.out with ⟨h1, rfl, h2, h3⟩ | ⟨h1, kk, rfl⟩
    · have H1 := Lib.hid h1
      clear h1 h2 h3
      by_cases hn : nx < 20000
      · have hnI : (nx : Int) < 20000 := by omega
        by_cases hc1 : 200 ≤ a.code
        · by_cases hc2 : a.code = 204
          · have hc2b : (a.code != 204) = false := by rw [hc2]; rfl
            have HC2 := Lib.hid hc2
            clear hc2
            go_wp2_with fail
            go_meet
            case rel => exact ⟨by rw [decide_eq_false (fun h => h.2.2.2.1 HC2.out)], rfl⟩
          · have hc2b : (a.code != 204) = true := by simpa using hc2
            by_cases hc3 : a.code = 304
            · have hc3b : (a.code != 304) = false := by rw [hc3]; rfl
              have HC3 := Lib.hid hc3
              clear hc3
              go_wp2_with fail
              go_meet
              case rel => exact ⟨by rw [decide_eq_false (fun h => h.2.2.2.2 HC3.out)], rfl⟩
            · have hc3b : (a.code != 304) = true := by simpa using hc3
              go_wp2_with fail
              go_meet
              case rel => exact ⟨by rw [decide_eq_true ⟨H1.out, hn, hc1, hc2, hc3⟩], rfl⟩
        · have hc1' : a.code < 200 := by omega
          clear hc1
          go_wp2_with fail
          go_meet
          case rel => exact ⟨by rw [decide_eq_false (fun h => by have h1 := h.2.2.1; omega)], rfl⟩
      · have hnI : ¬ (nx : Int) < 20000 := by omega
        go_wp2_with fail
        go_meet
        case rel => exact ⟨by rw [decide_eq_false (fun h => hn h.2.1)], rfl⟩
    · have H1 := Lib.hid h1
      clear h1
      go_wp2_with fail
      go_meet
      case rel => exact ⟨by rw [decide_eq_false (fun h => H1.out h.1)], rfl⟩
  case rest =>
  obtain ⟨rfl, rfl⟩ := hcut
  obtain ⟨bq, hbq⟩ : ∃ bq, decide (tellE a size = 0 ∧ nx < 20000 ∧ 200 ≤ a.code ∧ a.code ≠ 204 ∧ a.code ≠ 304) = bq := ⟨_, rfl⟩
  have HBQ := Lib.hid hbq
  rw [hbq]
  clear hbq
  go_upto_if 145 with fail
  go_cut [] from 7 (fun wx => Hid (Two w wx #[.string r.method, .string r.path, .string r.host, .slice vfa vfn vfc, .slice vba vbn vbc] #[.int .i64 a.code, .slice v2a v2n v2c, .slice v3a v3n v3c] 25))
  case first => as_aux_lemma =>
    rcases bq with _ | _
    · go_wp2_with fail
      go_meet
      case rel => exact ⟨HS.out, HR.out⟩
    · have hq := of_decide_eq_true HBQ.out
      obtain ⟨h1, hn, hc1, hc2, hc3⟩ := hq
      have HC := Lib.hid (And.intro hc1 (And.intro hc2 hc3))
      have hHC : Hid ((tellBytes a size.toNat).length = nx ∧ Fresh w3 B0 (.slice ax nx cx) (tellBytes a size.toNat)) := by
        rcases HCS.out with ⟨_, _, h2, h3⟩ | ⟨h2, _⟩
        · exact ⟨h2, h3⟩
        · exact absurd h1 h2
      have H1 : Hid (tellE a ((size.toNat : Nat) : Int) = 0) := by
        have e : ((size.toNat : Nat) : Int) = size := by have := (tell_right h1).2.2.2; omega
        show tellE a ((size.toNat : Nat) : Int) = 0
        rw [e]; exact h1
      clear h1 hc1 hc2 hc3
      have HLN := Lib.hid hHC.out.1
      have HFX := Lib.hid hHC.out.2
      obtain ⟨gx, cx', hex, hle⟩ := HFX.out.form (tell_pos a _)
      simp only [Value.slice.injEq] at hex
      obtain ⟨rfl, -, rfl⟩ := hex
      rw [HLN.out] at hle
      have hnI : (nx : Int) < 20000 := by omega
      have HAPL : Hid ((tellBytes a size.toNat).length + b.length ≤ 140737488355328 + 1000000000) := by show _ ≤ _; rw [HLN.out, HBN.out]; omega
      have HAPM : Hid ((tellBytes a size.toNat ++ b).length ≤ 140737588355328) := by show _ ≤ _; rw [List.length_append, HLN.out, HBN.out]; omega
      clear hHC HCS HBQ
      by_cases hin : 0 ≤ ct ∧ ct < (nx : Int)
      · as_aux_lemma =>
        obtain ⟨c, rfl⟩ : ∃ c : Nat, ct = c := ⟨ct.toNat, by omega⟩
        obtain ⟨hin1, hin2⟩ := hin
        have hcn : c < nx := by omega
        go_upto_region 21 with (first
          | (go_at_call 9; (with_reducible refine (readTell_cut (cut := c) (bytesAt_take (by have h := HFX.out.at; exact h) c (by rw [HLN.out]; omega)) (HPZ.out size.toNat) H1.out HC.out (by rw [HLN.out]; exact hcn) (by rw [HLN.out]; omega)).mono ?_); rintro e w4 ⟨rfl, hB⟩; replace HFX := Lib.hid (HFX.out.below hB); replace HB0 := Lib.hid (Nat.le_trans HB0.out hB.size); replace HS := Lib.hid (HS.out.step hB); replace HR := Lib.hid (HR.out.step hB); replace g0 := HS.out.cell 0 (by simp); simp at g0; replace g1 := HS.out.cell 1 (by simp); simp at g1; replace g2 := HS.out.cell 2 (by simp); simp at g2; replace g3 := HS.out.cell 3 (by simp); simp at g3; replace g4 := HS.out.cell 4 (by simp); simp at g4; replace k0 := HR.out.cell 0 (by simp); simp at k0; replace k1 := HR.out.cell 1 (by simp); simp at k1; replace k2 := HR.out.cell 2 (by simp); simp at k2; clear hB))
        have hal := (Below.refl w4.heap.size w4).alloc (Nat.le_refl _) (.cells #[.int .i64 0, .slice none 0 0, .slice none 0 0] 27)
        generalize w4.alloc (.cells #[.int .i64 0, .slice none 0 0, .slice none 0 0] 27) = W4 at *
        replace HFX := Lib.hid (HFX.out.below hal)
        replace HB0 := Lib.hid (Nat.le_trans HB0.out hal.size)
        replace HS := Lib.hid (HS.out.step hal)
        replace HR := Lib.hid (HR.out.step hal)
        replace g0 := HS.out.cell 0 (by simp)
        simp at g0
        replace g1 := HS.out.cell 1 (by simp)
        simp at g1
        replace g2 := HS.out.cell 2 (by simp)
        simp at g2
        replace g3 := HS.out.cell 3 (by simp)
        simp at g3
        replace g4 := HS.out.cell 4 (by simp)
        simp at g4
        replace k0 := HR.out.cell 0 (by simp)
        simp at k0
        replace k1 := HR.out.cell 1 (by simp)
        simp at k1
        replace k2 := HR.out.cell 2 (by simp)
        simp at k2
        clear hal
        go_upto_region 24 with (first
          | (go_at_call 6; (with_reducible refine (HE8.out _ HS.out.bel).mono ?_); rintro e w5 ⟨rfl, hB⟩; replace HFX := Lib.hid (HFX.out.below hB); replace HB0 := Lib.hid (Nat.le_trans HB0.out hB.size); replace HS := Lib.hid (HS.out.step hB); replace HR := Lib.hid (HR.out.step hB); replace g0 := HS.out.cell 0 (by simp); simp at g0; replace g1 := HS.out.cell 1 (by simp); simp at g1; replace g2 := HS.out.cell 2 (by simp); simp at g2; replace g3 := HS.out.cell 3 (by simp); simp at g3; replace g4 := HS.out.cell 4 (by simp); simp at g4; replace k0 := HR.out.cell 0 (by simp); simp at k0; replace k1 := HR.out.cell 1 (by simp); simp at k1; replace k2 := HR.out.cell 2 (by simp); simp at k2; clear hB))
        go_upto_region 25 with fail
        go_upto_region 26 with (first
          | (at_builtin; refine wpList_append_freshF rfl _ _ rfl B0 _ _ rfl HFX.out _ _ rfl (HBY.out _ HS.out.bel) HAPL.out HB0.out ?_; intro v6 w6 hF6 hB; have HX := Lib.hid hF6.at; obtain ⟨a6, n6, c6, rfl⟩ : ∃ x n c, v6 = .slice x n c := (by obtain ⟨x, c, h, -⟩ := hF6.at.open; exact ⟨_, _, _, h⟩); replace HS := Lib.hid (stepB HS.out hB HL1.out); replace HR := Lib.hid (stepB HR.out hB HL2.out); replace g0 := HS.out.cell 0 (by simp); simp at g0; replace g1 := HS.out.cell 1 (by simp); simp at g1; replace g2 := HS.out.cell 2 (by simp); simp at g2; replace g3 := HS.out.cell 3 (by simp); simp at g3; replace g4 := HS.out.cell 4 (by simp); simp at g4; replace k0 := HR.out.cell 0 (by simp); simp at k0; replace k1 := HR.out.cell 1 (by simp); simp at k1; replace k2 := HR.out.cell 2 (by simp); simp at k2; clear hF6 hB))
        go_upto_region 27 with (first
          | (go_at_call 9; (with_reducible refine (readTell_told HX.out (bd_app (HPZ.out size.toNat) HBZ.out) HAPM.out H1.out HC.out HLN.out).mono ?_); rintro e w7 ⟨fa, fn, fc, ba, bn, bc, rfl, hAt, hBt, hB⟩; have HAT := Lib.hid hAt; have HBT := Lib.hid hBt; replace HS := Lib.hid (HS.out.step hB); replace HR := Lib.hid (HR.out.step hB); replace g0 := HS.out.cell 0 (by simp); simp at g0; replace g1 := HS.out.cell 1 (by simp); simp at g1; replace g2 := HS.out.cell 2 (by simp); simp at g2; replace g3 := HS.out.cell 3 (by simp); simp at g3; replace g4 := HS.out.cell 4 (by simp); simp at g4; replace k0 := HR.out.cell 0 (by simp); simp at k0; replace k1 := HR.out.cell 1 (by simp); simp at k1; replace k2 := HR.out.cell 2 (by simp); simp at k2; clear hAt hBt hB))
        have hal := (Below.refl w7.heap.size w7).alloc (Nat.le_refl _) (.cells #[.int .i64 a.code, .slice fa fn fc, .slice ba bn bc] 27)
        replace HAT := Lib.hid (HAT.out.old hal)
        replace HBT := Lib.hid (HBT.out.below hal)
        have m0 : ∀ i, (w7.alloc (.cells #[.int .i64 a.code, .slice fa fn fc, .slice ba bn bc] 27)).cell? ⟨w7.heap.size, i, none⟩ = ( #[.int .i64 a.code, .slice fa fn fc, .slice ba bn bc] : Array Value)[i]? := fun i => by simp
        have m00 := m0 0
        have m01 := m0 1
        have m02 := m0 2
        simp only [List.getElem?_toArray, List.getElem?_cons_zero, List.getElem?_cons_succ] at m00 m01 m02
        clear m0
        generalize w7.alloc (.cells #[.int .i64 a.code, .slice fa fn fc, .slice ba bn bc] 27) = W7 at *
        replace HS := Lib.hid (HS.out.step hal)
        replace HR := Lib.hid (HR.out.step hal)
        replace g0 := HS.out.cell 0 (by simp)
        simp at g0
        replace g1 := HS.out.cell 1 (by simp)
        simp at g1
        replace g2 := HS.out.cell 2 (by simp)
        simp at g2
        replace g3 := HS.out.cell 3 (by simp)
        simp at g3
        replace g4 := HS.out.cell 4 (by simp)
        simp at g4
        replace k0 := HR.out.cell 0 (by simp)
        simp at k0
        replace k1 := HR.out.cell 1 (by simp)
        simp at k1
        replace k2 := HR.out.cell 2 (by simp)
        simp at k2
        clear hal
        go_wp2_with (first
          | (go_at_call 10; (with_reducible refine (HSP.out _ _ _ HS.out.bel HAT.out HBT.out).mono ?_); rintro e w8 ⟨rfl, hB⟩; replace HS := Lib.hid (HS.out.step hB); replace HR := Lib.hid (HR.out.step hB); replace g0 := HS.out.cell 0 (by simp); simp at g0; replace g1 := HS.out.cell 1 (by simp); simp at g1; replace g2 := HS.out.cell 2 (by simp); simp at g2; replace g3 := HS.out.cell 3 (by simp); simp at g3; replace g4 := HS.out.cell 4 (by simp); simp at g4; replace k0 := HR.out.cell 0 (by simp); simp at k0; replace k1 := HR.out.cell 1 (by simp); simp at k1; replace k2 := HR.out.cell 2 (by simp); simp at k2; clear hB))
        go_meet
        case rel => exact ⟨HS.out, HR.out⟩
      · as_aux_lemma =>
        have hcase : ¬ 0 ≤ ct ∨ (0 ≤ ct ∧ ¬ ct < (nx : Int)) := by omega
        clear hin
        rcases hcase with hin1 | ⟨hin1, hin2⟩
        all_goals
          go_upto_region 25 with fail
          go_upto_region 26 with (first
            | (at_builtin; refine wpList_append_freshF rfl _ _ rfl B0 _ _ rfl HFX.out _ _ rfl (HBY.out _ HS.out.bel) HAPL.out HB0.out ?_; intro v6 w6 hF6 hB; have HX := Lib.hid hF6.at; obtain ⟨a6, n6, c6, rfl⟩ : ∃ x n c, v6 = .slice x n c := (by obtain ⟨x, c, h, -⟩ := hF6.at.open; exact ⟨_, _, _, h⟩); replace HS := Lib.hid (stepB HS.out hB HL1.out); replace HR := Lib.hid (stepB HR.out hB HL2.out); replace g0 := HS.out.cell 0 (by simp); simp at g0; replace g1 := HS.out.cell 1 (by simp); simp at g1; replace g2 := HS.out.cell 2 (by simp); simp at g2; replace g3 := HS.out.cell 3 (by simp); simp at g3; replace g4 := HS.out.cell 4 (by simp); simp at g4; replace k0 := HR.out.cell 0 (by simp); simp at k0; replace k1 := HR.out.cell 1 (by simp); simp at k1; replace k2 := HR.out.cell 2 (by simp); simp at k2; clear hF6 hB))
          go_upto_region 27 with (first
            | (go_at_call 9; (with_reducible refine (readTell_told HX.out (bd_app (HPZ.out size.toNat) HBZ.out) HAPM.out H1.out HC.out HLN.out).mono ?_); rintro e w7 ⟨fa, fn, fc, ba, bn, bc, rfl, hAt, hBt, hB⟩; have HAT := Lib.hid hAt; have HBT := Lib.hid hBt; replace HS := Lib.hid (HS.out.step hB); replace HR := Lib.hid (HR.out.step hB); replace g0 := HS.out.cell 0 (by simp); simp at g0; replace g1 := HS.out.cell 1 (by simp); simp at g1; replace g2 := HS.out.cell 2 (by simp); simp at g2; replace g3 := HS.out.cell 3 (by simp); simp at g3; replace g4 := HS.out.cell 4 (by simp); simp at g4; replace k0 := HR.out.cell 0 (by simp); simp at k0; replace k1 := HR.out.cell 1 (by simp); simp at k1; replace k2 := HR.out.cell 2 (by simp); simp at k2; clear hAt hBt hB))
          have hal := (Below.refl w7.heap.size w7).alloc (Nat.le_refl _) (.cells #[.int .i64 a.code, .slice fa fn fc, .slice ba bn bc] 27)
          replace HAT := Lib.hid (HAT.out.old hal)
          replace HBT := Lib.hid (HBT.out.below hal)
          have m0 : ∀ i, (w7.alloc (.cells #[.int .i64 a.code, .slice fa fn fc, .slice ba bn bc] 27)).cell? ⟨w7.heap.size, i, none⟩ = ( #[.int .i64 a.code, .slice fa fn fc, .slice ba bn bc] : Array Value)[i]? := fun i => by simp
          have m00 := m0 0
          have m01 := m0 1
          have m02 := m0 2
          simp only [List.getElem?_toArray, List.getElem?_cons_zero, List.getElem?_cons_succ] at m00 m01 m02
          clear m0
          generalize w7.alloc (.cells #[.int .i64 a.code, .slice fa fn fc, .slice ba bn bc] 27) = W7 at *
          replace HS := Lib.hid (HS.out.step hal)
          replace HR := Lib.hid (HR.out.step hal)
          replace g0 := HS.out.cell 0 (by simp)
          simp at g0
          replace g1 := HS.out.cell 1 (by simp)
          simp at g1
          replace g2 := HS.out.cell 2 (by simp)
          simp at g2
          replace g3 := HS.out.cell 3 (by simp)
          simp at g3
          replace g4 := HS.out.cell 4 (by simp)
          simp at g4
          replace k0 := HR.out.cell 0 (by simp)
          simp at k0
          replace k1 := HR.out.cell 1 (by simp)
          simp at k1
          replace k2 := HR.out.cell 2 (by simp)
          simp at k2
          clear hal
          go_wp2_with (first
            | (go_at_call 10; (with_reducible refine (HSP.out _ _ _ HS.out.bel HAT.out HBT.out).mono ?_); rintro e w8 ⟨rfl, hB⟩; replace HS := Lib.hid (HS.out.step hB); replace HR := Lib.hid (HR.out.step hB); replace g0 := HS.out.cell 0 (by simp); simp at g0; replace g1 := HS.out.cell 1 (by simp); simp at g1; replace g2 := HS.out.cell 2 (by simp); simp at g2; replace g3 := HS.out.cell 3 (by simp); simp at g3; replace g4 := HS.out.cell 4 (by simp); simp at g4; replace k0 := HR.out.cell 0 (by simp); simp at k0; replace k1 := HR.out.cell 1 (by simp); simp at k1; replace k2 := HR.out.cell 2 (by simp); simp at k2; clear hB))
          go_meet
          case rel => exact ⟨HS.out, HR.out⟩

  case rest =>
  have HS := Lib.hid hcut.out.1
  have HR := Lib.hid hcut.out.2
  replace g0 := HS.out.cell 0 (by simp); simp at g0; replace g1 := HS.out.cell 1 (by simp); simp at g1; replace g2 := HS.out.cell 2 (by simp); simp at g2; replace g3 := HS.out.cell 3 (by simp); simp at g3; replace g4 := HS.out.cell 4 (by simp); simp at g4; replace k0 := HR.out.cell 0 (by simp); simp at k0; replace k1 := HR.out.cell 1 (by simp); simp at k1; replace k2 := HR.out.cell 2 (by simp); simp at k2
  clear hcut

  obtain ⟨W2, hW2⟩ : ∃ W2 : World, W2 = wc := ⟨_, rfl⟩
  subst hW2
  clear HB0 HL1 HL2 HCS HBQ
  have HVC : Hid (vvn ≤ vvc) := by
    obtain ⟨x, c, e, h1, _⟩ := (HBY.out _ HS.out.bel).open
    simp only [Value.slice.injEq] at e
    obtain ⟨_, h2, rfl⟩ := e
    show vvn ≤ _
    omega
  go_upto_region 31 with (first
    | (go_at_call 4; (with_reducible refine (HBACK.out _ HS.out.bel).mono ?_); rintro e w9 ⟨hB, ⟨kk, rfl⟩ | ⟨q, m, fa, fn, fc, ba, bn, bc, rfl, hAt, hBt, hq0, hqb, hmn⟩⟩))
  · as_aux_lemma =>
    have HBE := Lib.hid (HS.out.bel.trans (hB.mono HS.out.bel.size))
    clear hB
    go_wp2
    go_ret
    exact ⟨rfl, HBE.out.trans (((Below.refl w9.heap.size w9).alloc (Nat.le_refl _) _).mono HBE.out.size)⟩
  · as_aux_lemma =>
    have HBE := Lib.hid (HS.out.bel.trans (hB.mono HS.out.bel.size))
    have HAT := Lib.hid hAt
    have HBT := Lib.hid hBt
    have HQ0 := Lib.hid hq0
    have HQB := Lib.hid hqb
    rw [HBN.out] at hmn
    have hmc : m ≤ vvc := Nat.le_trans hmn HVC.out
    obtain ⟨Z, hZ⟩ : ∃ Z, strOf (askBytes q) = Z := ⟨_, rfl⟩
    have HZZ := Lib.hid hZ
    have hal := (Below.refl w9.heap.size w9).alloc (Nat.le_refl _) (.cells #[.string q.method, .string q.path, .string q.host, .slice fa fn fc, .slice ba bn bc] 25)
    replace HAT := Lib.hid (HAT.out.old hal)
    replace HBT := Lib.hid (HBT.out.below hal)
    replace HBE := Lib.hid (HBE.out.trans (hal.mono HBE.out.size))
    have HAQ := Lib.hid (HA2.out q (w9.alloc (.cells #[.string q.method, .string q.path, .string q.host, .slice fa fn fc, .slice ba bn bc] 25)) (.slice fa fn fc) (.slice ba bn bc) HBE.out HAT.out HBT.out hq0)
    unfold rqV at HAQ
    clear hB hAt hBt hq0 hqb hZ hal
    go_upto_region 34 with (first
      | (go_at_call 5; (with_reducible refine HAQ.out.mono ?_); rintro e w10 ⟨vz, rfl, hz, hB⟩; obtain ⟨z1, z2, rfl, -⟩ := hz.open; have HZ := Lib.hid hz; replace HBE := Lib.hid (HBE.out.trans (hB.mono HBE.out.size)); clear hz hB))
    have cz : ∀ n : Nat, (convert 23 9 (.slice z1 (askBytes q).length z2)).run Tryz.prog (w10.drewN n) = .ok (.string Z) (w10.drewN n) := fun n => by
      rw [← HZZ.out]
      refine conv_back (HZ.out.below (ReadC.below_drewN (Below.refl _ _) n)) ?_
      rw [HQB.out]
      exact fun z hm => HBZ.out z (List.mem_of_mem_take hm)
    have cb : ∀ n : Nat, (convert 23 9 (.slice vva m vvc)).run Tryz.prog (w10.drewN n) = .ok (.string Z) (w10.drewN n) := fun n => by
      rw [← HZZ.out, HQB.out]
      exact conv_back (bytesAt_take (HBY.out _ (ReadC.below_drewN HBE.out n)) m (by rw [HBN.out]; exact hmn)) (fun z hm => HBZ.out z (List.mem_of_mem_take hm))
    have cz0 := cz 0
    have cb0 := cb 0
    rw [show w10.drewN 0 = w10 from rfl] at cz0 cb0
    have hsl := fun W => slice_head vva vvn vvc m hmc W
    have hmI : (m : Int) ≤ (vvc : Int) := by omega
    have hm0 : (0 : Int) ≤ (m : Int) := by omega
    generalize (askBytes q).length = zn at *
    go_quiet (fail)
    go_wp2
    go_ret
    exact ⟨rfl, ReadC.below_drewN HBE.out _⟩
end Go.Proofs.YtkohbbnnjakhjaaGreatDoor.WalkLineBack
