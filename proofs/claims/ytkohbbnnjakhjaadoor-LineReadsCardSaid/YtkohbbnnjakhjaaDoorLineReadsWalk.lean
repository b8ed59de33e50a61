/-
  The walk of the law LineReads: for all bytes it returns true and writes nothing that was there.
  Conditions: errors.errorType starts as the program's text lays it; the bytes are no longer than memory bears.
-/
import Derived.Test.YtkohbbnnjakhjaaDoorArgs
import Derived.Test.YtkohbbnnjakhjaaDoorBytesArg
import Derived.Test.YtkohbbnnjakhjaaDoorReadLTell
import Derived.Test.YtkohbbnnjakhjaaDoorSame
import Derived.Test.YtkohbbnnjakhjaaDoorTold
namespace Go.Proofs.YtkohbbnnjakhjaaDoor.WalkLineReads
open Go.RowKit RowsK FieldRows LineC LineM BA ToldC ReadC ReadL ChunkD ReadS
set_option linter.unusedVariables false
set_option linter.unusedSimpArgs false

theorem fields_nil (w : World) : At encF w (.slice none 0 0) [] := ⟨none, 0, rfl, by simp, by simp, by simp, fun i hi => absurd hi (by simp)⟩
theorem body_mem {b : List Int} {n : Nat} {σ : St} : ∀ z ∈ (bodyS b n σ).1, z ∈ b := by
  intro z hz
  unfold bodyS at hz
  split at hz
  · simp at hz
  split at hz
  · simp at hz
  · exact List.mem_of_mem_drop (List.mem_of_mem_take hz)
theorem dec_mem {b : List Int} : ∀ f p body, ∀ z ∈ (dec b f p body).1, z ∈ body ∨ z ∈ b := by
  intro f
  induction f with
  | zero => intro p body z hz; simp [dec] at hz
  | succ f ih =>
    intro p body z hz
    obtain ⟨⟨n, q, e⟩, hn⟩ : ∃ x, num b p (8000 - body.length) (b.length + 1) p 0 = x := ⟨_, rfl⟩
    by_cases he : e = 0
    · subst he
      obtain ⟨⟨m, e1⟩, hm⟩ : ∃ x, mt b [13, 10] q = x := ⟨_, rfl⟩
      by_cases he1 : e1 = 0
      · subst he1
        obtain ⟨⟨m2, e2⟩, hm2⟩ : ∃ x, mt b [13, 10] (m + n) = x := ⟨_, rfl⟩
        by_cases he2 : e2 = 0
        · subst he2
          by_cases hn0 : n = 0
          · subst hn0
            rw [dec_end hn hm (by simpa using hm2)] at hz
            exact .inl hz
          · rw [dec_step hn hm hm2 hn0] at hz
            rcases ih _ _ z hz with h | h
            · rcases List.mem_append.1 h with h | h
              · exact .inl h
              · exact .inr (List.mem_of_mem_drop (List.mem_of_mem_take h))
            · exact .inr h
        · rw [dec_mt2 hn hm hm2 he2] at hz; simp at hz
      · rw [dec_mt hn hm he1] at hz; simp at hz
    · rw [dec_num hn he] at hz; simp at hz
theorem askC_body (b : List Int) : ∃ d : Hd, (askC b).1.body = (if 0 < d.n then bodyS b d.n.toNat d.σ else ([], d.σ)).1 := by
  unfold askC
  dsimp only
  generalize hdS b 1 false 42 [] _ = d
  exact ⟨d, rfl⟩
theorem ask_mem {b : List Int} : ∀ z ∈ (readAsk b).1.body, z ∈ b := by
  intro z hz
  obtain ⟨d, hd⟩ := askC_body b
  unfold readAsk at hz
  generalize askC b = A at *
  split at hz
  · simp only [hd] at hz
    split at hz
    · exact body_mem z hz
    · simp at hz
  · simp at hz
theorem tell_mem {b : List Int} {bare closed : Bool} : ∀ z ∈ (readTell b bare closed).1.body, z ∈ b := by
  intro z hz
  have hd : (tellC b bare closed).1.body = (bodyC b bare closed (codeC b).1 (headC b)).1 := rfl
  unfold readTell at hz
  generalize tellC b bare closed = A at *
  generalize headC b = H at *
  generalize codeC b = C at *
  split at hz
  · simp only [hd] at hz
    unfold bodyC at hz
    split at hz
    · simp at hz
    split at hz
    · rcases dec_mem _ _ _ z hz with h | h
      · simp at h
      · exact List.mem_of_mem_drop h
    split at hz
    · exact body_mem z hz
    split at hz
    · simp at hz
    split at hz
    · simp at hz
    · exact body_mem z hz
  · simp at hz
theorem err_is (k : Nat) : ErrIs (errN k) k := by
  unfold errN
  split
  · rename_i h; rw [h]; exact .nil
  · exact .err k
theorem ask_l (v : Value) (b : List Int) (w : World) (hb : BytesAt w v b) (hz : ∀ z ∈ b, 0 ≤ z ∧ z ≤ 255) (hl : b.length ≤ 140737588355328) :
    Calls Tryd.prog 5 #[v] w fun e w' => ∃ (a : Option Addr) (n c : Nat) (a2 : Option Addr) (n2 c2 : Nat), e = .returned (.tuple #[.agg #[.string (readAsk b).1.method, .string (readAsk b).1.path, .string (readAsk b).1.host, .slice a n c, .slice a2 n2 c2], .int .i64 (readAsk b).2.1, .int .i64 (readAsk b).2.2]) ∧ At encF w' (.slice a n c) (readAsk b).1.fields ∧ BytesAt w' (.slice a2 n2 c2) (readAsk b).1.body ∧ Below w.heap.size w w' := by
  have h := rreadAsk_any v b w hb hz hl
  unfold LRA at h
  have hs : readAsk b = if faultS b (askC b).2 = 0 then ((askC b).1, ((askC b).2.1, 0)) else (⟨⟨#[]⟩, ⟨#[]⟩, ⟨#[]⟩, [], []⟩, (0, faultS b (askC b).2)) := by rw [readAsk]
  rw [hs]
  clear hs
  generalize askC b = A at *
  obtain ⟨A1, A2, A3⟩ := A
  refine h.mono ?_
  rintro e w' ⟨hB, ⟨h0, a, n, c, a2, n2, c2, he, h1, h2⟩ | ⟨h0, he⟩⟩
  · rw [if_pos h0]
    exact ⟨a, n, c, a2, n2, c2, he, h1, h2, hB⟩
  · rw [if_neg h0]
    exact ⟨none, 0, 0, none, 0, 0, he, fields_nil _, bytes_nil _, hB⟩
theorem ask_p (v : Value) (b : List Int) (w : World) (hb : BytesAt w v b) (hz : ∀ z ∈ b, 0 ≤ z ∧ z ≤ 255) (hl : b.length ≤ 140737588355328) :
    Calls Tryd.prog 6 #[v] w fun e w' => ∃ (a : Option Addr) (n c : Nat) (a2 : Option Addr) (n2 c2 : Nat), e = .returned (.tuple #[.agg #[.string (readAsk b).1.method, .string (readAsk b).1.path, .string (readAsk b).1.host, .slice a n c, .slice a2 n2 c2], .int .i64 (readAsk b).2.1, errN (readAsk b).2.2]) ∧ At encF w' (.slice a n c) (readAsk b).1.fields ∧ BytesAt w' (.slice a2 n2 c2) (readAsk b).1.body ∧ Below w.heap.size w w' := by
  have h := readAsk_any v b w hb hz hl
  unfold RA at h
  have hs : readAsk b = if faultS b (askC b).2 = 0 then ((askC b).1, ((askC b).2.1, 0)) else (⟨⟨#[]⟩, ⟨#[]⟩, ⟨#[]⟩, [], []⟩, (0, faultS b (askC b).2)) := by rw [readAsk]
  rw [hs]
  clear hs
  generalize askC b = A at *
  obtain ⟨A1, A2, A3⟩ := A
  refine h.mono ?_
  rintro e w' ⟨hB, ⟨h0, a, n, c, a2, n2, c2, he, h1, h2⟩ | ⟨h0, he⟩⟩
  · rw [if_pos h0]
    exact ⟨a, n, c, a2, n2, c2, he, h1, h2, hB⟩
  · rw [if_neg h0]
    exact ⟨none, 0, 0, none, 0, 0, he, fields_nil _, bytes_nil _, hB⟩
theorem tell_l (v : Value) (b : List Int) (w : World) (bare closed : Bool) (hb : BytesAt w v b) (hz : ∀ z ∈ b, 0 ≤ z ∧ z ≤ 255) (hl : b.length ≤ 140737588355328) :
    Calls Tryd.prog 9 #[v, .bool bare, .bool closed] w fun e w' => ∃ (a : Option Addr) (n c : Nat) (a2 : Option Addr) (n2 c2 : Nat), e = .returned (.tuple #[.agg #[.int .i64 (readTell b bare closed).1.code, .slice a n c, .slice a2 n2 c2], .int .i64 (readTell b bare closed).2.1, .int .i64 (readTell b bare closed).2.2]) ∧ At encF w' (.slice a n c) (readTell b bare closed).1.fields ∧ BytesAt w' (.slice a2 n2 c2) (readTell b bare closed).1.body ∧ Below w.heap.size w w' := by
  have h := rreadTell_any v b w bare closed hb hz hl
  unfold LTA at h
  have hs : readTell b bare closed = if faultS b (tellC b bare closed).2 = 0 then ((tellC b bare closed).1, ((tellC b bare closed).2.1, 0)) else (⟨0, [], []⟩, (0, faultS b (tellC b bare closed).2)) := by rw [readTell]
  rw [hs]
  clear hs
  generalize tellC b bare closed = A at *
  obtain ⟨A1, A2, A3⟩ := A
  refine h.mono ?_
  rintro e w' ⟨hB, ⟨h0, a, n, c, a2, n2, c2, he, h1, h2⟩ | ⟨h0, he⟩⟩
  · rw [if_pos h0]
    exact ⟨a, n, c, a2, n2, c2, he, h1, h2, hB⟩
  · rw [if_neg h0]
    exact ⟨none, 0, 0, none, 0, 0, he, fields_nil _, bytes_nil _, hB⟩
theorem tell_p (v : Value) (b : List Int) (w : World) (bare closed : Bool) (hb : BytesAt w v b) (hz : ∀ z ∈ b, 0 ≤ z ∧ z ≤ 255) (hl : b.length ≤ 140737588355328) :
    Calls Tryd.prog 10 #[v, .bool bare, .bool closed] w fun e w' => ∃ (a : Option Addr) (n c : Nat) (a2 : Option Addr) (n2 c2 : Nat), e = .returned (.tuple #[.agg #[.int .i64 (readTell b bare closed).1.code, .slice a n c, .slice a2 n2 c2], .int .i64 (readTell b bare closed).2.1, errN (readTell b bare closed).2.2]) ∧ At encF w' (.slice a n c) (readTell b bare closed).1.fields ∧ BytesAt w' (.slice a2 n2 c2) (readTell b bare closed).1.body ∧ Below w.heap.size w w' := by
  have h := readTell_any v b w bare closed hb hz hl
  unfold TA at h
  have hs : readTell b bare closed = if faultS b (tellC b bare closed).2 = 0 then ((tellC b bare closed).1, ((tellC b bare closed).2.1, 0)) else (⟨0, [], []⟩, (0, faultS b (tellC b bare closed).2)) := by rw [readTell]
  rw [hs]
  clear hs
  generalize tellC b bare closed = A at *
  obtain ⟨A1, A2, A3⟩ := A
  refine h.mono ?_
  rintro e w' ⟨hB, ⟨h0, a, n, c, a2, n2, c2, he, h1, h2⟩ | ⟨h0, he⟩⟩
  · rw [if_pos h0]
    exact ⟨a, n, c, a2, n2, c2, he, h1, h2, hB⟩
  · rw [if_neg h0]
    exact ⟨none, 0, 0, none, 0, 0, he, fields_nil _, bytes_nil _, hB⟩
set_option maxRecDepth 100000 in
set_option maxHeartbeats 16000000 in
theorem walk (v : Value) (b : List Int) (u : Value) (c : List Int) (bare closed : Bool) (w : World) (hv : Args.BytesAt w v b) (hu : Args.BytesAt w u c)
    (hg : w.cell? ⟨0, 0, none⟩ = some (.iface 121 (.agg #[.pointer (some ⟨7, 29, none⟩)]))) (hbl : b.length ≤ 140737488351232) (hcl : c.length ≤ 140737488351232) :
    Calls Tryd.prog 3 #[v, u, .bool bare, .bool closed] w fun e w' => e = .returned (.bool true) ∧ Below w.heap.size w w' := by
  obtain ⟨hb, hbz⟩ := hv
  obtain ⟨hc, hcz⟩ := hu
  obtain ⟨va, vn, vc, rfl⟩ : ∃ x n c, v = .slice x n c := by obtain ⟨x, c, h, -⟩ := hb.open; exact ⟨_, _, _, h⟩
  obtain ⟨ua, un, uc, rfl⟩ : ∃ x n c, u = .slice x n c := by obtain ⟨x, c, h, -⟩ := hc.open; exact ⟨_, _, _, h⟩
  have HGc : ∀ W', Below w.heap.size w W' → W'.cell? ⟨0, 0, none⟩ = some (.iface 121 (.agg #[.pointer (some ⟨7, 29, none⟩)])) := fun W' hB => (hB.cell (p := ⟨0, 0, none⟩) (block_lt_of_cell hg)).trans hg
  have HER : ∀ k : Nat, Hid (∀ W, Below w.heap.size w W → Calls Tryd.prog 7 #[errN k, .int .i64 k] W fun e W' => e = .returned (.bool true) ∧ Below W.heap.size W W') := fun k W hB => (error_any (err_is k) k W (HGc W hB)).mono fun e w' h => ⟨by rw [h.1]; simp, h.2⟩
  have HA1 := Lib.hid (fun (W : World) (hW : Below w.heap.size w W) => ask_l (.slice va vn vc) b W (hb.below hW) hbz (by omega))
  have HA2 := Lib.hid (fun (W : World) (hW : Below w.heap.size w W) => ask_p (.slice va vn vc) b W (hb.below hW) hbz (by omega))
  have HT1 := Lib.hid (fun (W : World) (hW : Below w.heap.size w W) => tell_l (.slice ua un uc) c W bare closed (hc.below hW) hcz (by omega))
  have HT2 := Lib.hid (fun (W : World) (hW : Below w.heap.size w W) => tell_p (.slice ua un uc) c W bare closed (hc.below hW) hcz (by omega))
  have hqz : ∀ z ∈ (readAsk b).1.body, 0 ≤ z ∧ z ≤ 255 := fun z hz => hbz z (ask_mem z hz)
  have hpz : ∀ z ∈ (readTell c bare closed).1.body, 0 ≤ z ∧ z ≤ 255 := fun z hz => hcz z (tell_mem z hz)
  obtain ⟨⟨Q, m1, k1⟩, hQ⟩ : ∃ x, readAsk b = x := ⟨_, rfl⟩
  obtain ⟨⟨P, m2, k2⟩, hP⟩ : ∃ x, readTell c bare closed = x := ⟨_, rfl⟩
  simp only [hQ] at HA1 HA2 hqz
  simp only [hP] at HT1 HT2 hpz
  have HE1 := HER k1
  have HE2 := HER k2
  have HSQ := Lib.hid (fun (W : World) (va vb vc vd : Value) (h1 : At encF W va Q.fields) (h2 : At encF W vb Q.fields) (h3 : BytesAt W vc Q.body) (h4 : BytesAt W vd Q.body) => SameC.sameR_any Q va vc vb vd W h1 h2 h3 h4 hqz)
  have HSP := Lib.hid (fun (W : World) (va vb vc vd : Value) (h1 : At encF W va P.fields) (h2 : At encF W vb P.fields) (h3 : BytesAt W vc P.body) (h4 : BytesAt W vd P.body) => SameC.sameP_any P va vc vb vd W h1 h2 h3 h4 hpz)
  unfold rqV at HSQ
  unfold rpV at HSP
  have HB := Lib.hid (Below.refl w.heap.size w)
  clear hb hbz hc hcz hg HGc HER hQ hP hqz hpz hbl hcl
  go_enter Tryd.func3, Tryd.ntmps3
  go_upto_region 2 with (first
    | (go_at_call 5; (with_reducible refine (HA1.out _ HB.out).mono ?_); rintro e w1 ⟨a1, n1, c1, d1, e1, f1, rfl, hAt, hBt, hB⟩; have HF1 := Lib.hid hAt; have HY1 := Lib.hid hBt; replace HB := Lib.hid (HB.out.trans (hB.mono HB.out.size)); clear hAt hBt hB))
  have hal := (Below.refl w1.heap.size w1).alloc (Nat.le_refl _) (.cells #[.string Q.method, .string Q.path, .string Q.host, .slice a1 n1 c1, .slice d1 e1 f1] 25)
  have HH1 := Lib.hid (HeldQ.new w1 #[.string Q.method, .string Q.path, .string Q.host, .slice a1 n1 c1, .slice d1 e1 f1] 25)
  generalize w1.alloc (.cells #[.string Q.method, .string Q.path, .string Q.host, .slice a1 n1 c1, .slice d1 e1 f1] 25) = W1 at *
  replace HB := Lib.hid (HB.out.trans (hal.mono HB.out.size))
  replace HF1 := Lib.hid (HF1.out.old hal)
  replace HY1 := Lib.hid (HY1.out.below hal)
  have g10 := HH1.out.cell 0 (by simp)
  simp at g10
  have g11 := HH1.out.cell 1 (by simp)
  simp at g11
  have g12 := HH1.out.cell 2 (by simp)
  simp at g12
  have g13 := HH1.out.cell 3 (by simp)
  simp at g13
  have g14 := HH1.out.cell 4 (by simp)
  simp at g14
  clear hal
  go_upto_region 3 with (first
    | (go_at_call 6; (with_reducible refine (HA2.out _ HB.out).mono ?_); rintro e w2 ⟨a2, n2, c2, d2, e2, f2, rfl, hAt, hBt, hB⟩; have HF2 := Lib.hid hAt; have HY2 := Lib.hid hBt; clear g10 g11 g12 g13 g14; replace HB := Lib.hid (HB.out.trans (hB.mono HB.out.size)); replace HH1 := Lib.hid (HH1.out.step hB); replace HF1 := Lib.hid (HF1.out.old hB); replace HY1 := Lib.hid (HY1.out.below hB); clear hAt hBt hB))
  have hal := (Below.refl w2.heap.size w2).alloc (Nat.le_refl _) (.cells #[.string Q.method, .string Q.path, .string Q.host, .slice a2 n2 c2, .slice d2 e2 f2] 25)
  have HH2 := Lib.hid (HeldQ.new w2 #[.string Q.method, .string Q.path, .string Q.host, .slice a2 n2 c2, .slice d2 e2 f2] 25)
  generalize w2.alloc (.cells #[.string Q.method, .string Q.path, .string Q.host, .slice a2 n2 c2, .slice d2 e2 f2] 25) = W2 at *
  replace HB := Lib.hid (HB.out.trans (hal.mono HB.out.size))
  replace HH1 := Lib.hid (HH1.out.step hal)
  replace HF1 := Lib.hid (HF1.out.old hal)
  replace HY1 := Lib.hid (HY1.out.below hal)
  replace HF2 := Lib.hid (HF2.out.old hal)
  replace HY2 := Lib.hid (HY2.out.below hal)
  have g10 := HH1.out.cell 0 (by simp)
  simp at g10
  have g11 := HH1.out.cell 1 (by simp)
  simp at g11
  have g12 := HH1.out.cell 2 (by simp)
  simp at g12
  have g13 := HH1.out.cell 3 (by simp)
  simp at g13
  have g14 := HH1.out.cell 4 (by simp)
  simp at g14
  have g20 := HH2.out.cell 0 (by simp)
  simp at g20
  have g21 := HH2.out.cell 1 (by simp)
  simp at g21
  have g22 := HH2.out.cell 2 (by simp)
  simp at g22
  have g23 := HH2.out.cell 3 (by simp)
  simp at g23
  have g24 := HH2.out.cell 4 (by simp)
  simp at g24
  clear hal
  go_upto_region 4 with (first
    | (go_at_call 7; (with_reducible refine (HE1.out _ HB.out).mono ?_); rintro e w9 ⟨rfl, hB⟩; clear g10 g11 g12 g13 g14 g20 g21 g22 g23 g24; replace HB := Lib.hid (HB.out.trans (hB.mono HB.out.size)); replace HH1 := Lib.hid (HH1.out.step hB); replace HF1 := Lib.hid (HF1.out.old hB); replace HY1 := Lib.hid (HY1.out.below hB); replace HH2 := Lib.hid (HH2.out.step hB); replace HF2 := Lib.hid (HF2.out.old hB); replace HY2 := Lib.hid (HY2.out.below hB); have g10 := HH1.out.cell 0 (by simp); simp at g10; have g11 := HH1.out.cell 1 (by simp); simp at g11; have g12 := HH1.out.cell 2 (by simp); simp at g12; have g13 := HH1.out.cell 3 (by simp); simp at g13; have g14 := HH1.out.cell 4 (by simp); simp at g14; have g20 := HH2.out.cell 0 (by simp); simp at g20; have g21 := HH2.out.cell 1 (by simp); simp at g21; have g22 := HH2.out.cell 2 (by simp); simp at g22; have g23 := HH2.out.cell 3 (by simp); simp at g23; have g24 := HH2.out.cell 4 (by simp); simp at g24; clear hB))
  go_upto_region 7 with (first
    | (go_at_call 8; (with_reducible refine (HSQ.out _ _ _ _ _ HF2.out HF1.out HY2.out HY1.out).mono ?_); rintro e w9 ⟨rfl, hB⟩; clear g10 g11 g12 g13 g14 g20 g21 g22 g23 g24; replace HB := Lib.hid (HB.out.trans (hB.mono HB.out.size)); replace HH1 := Lib.hid (HH1.out.step hB); replace HF1 := Lib.hid (HF1.out.old hB); replace HY1 := Lib.hid (HY1.out.below hB); replace HH2 := Lib.hid (HH2.out.step hB); replace HF2 := Lib.hid (HF2.out.old hB); replace HY2 := Lib.hid (HY2.out.below hB); have g10 := HH1.out.cell 0 (by simp); simp at g10; have g11 := HH1.out.cell 1 (by simp); simp at g11; have g12 := HH1.out.cell 2 (by simp); simp at g12; have g13 := HH1.out.cell 3 (by simp); simp at g13; have g14 := HH1.out.cell 4 (by simp); simp at g14; have g20 := HH2.out.cell 0 (by simp); simp at g20; have g21 := HH2.out.cell 1 (by simp); simp at g21; have g22 := HH2.out.cell 2 (by simp); simp at g22; have g23 := HH2.out.cell 3 (by simp); simp at g23; have g24 := HH2.out.cell 4 (by simp); simp at g24; clear hB))
  clear g10 g11 g12 g13 g14 g20 g21 g22 g23 g24
  go_upto_region 8 with (first
    | (go_at_call 9; (with_reducible refine (HT1.out _ HB.out).mono ?_); rintro e w3 ⟨a3, n3, c3, d3, e3, f3, rfl, hAt, hBt, hB⟩; have HF3 := Lib.hid hAt; have HY3 := Lib.hid hBt; replace HB := Lib.hid (HB.out.trans (hB.mono HB.out.size)); clear hAt hBt hB))
  have hal := (Below.refl w3.heap.size w3).alloc (Nat.le_refl _) (.cells #[.int .i64 P.code, .slice a3 n3 c3, .slice d3 e3 f3] 35)
  have HH3 := Lib.hid (HeldQ.new w3 #[.int .i64 P.code, .slice a3 n3 c3, .slice d3 e3 f3] 35)
  generalize w3.alloc (.cells #[.int .i64 P.code, .slice a3 n3 c3, .slice d3 e3 f3] 35) = W3 at *
  replace HB := Lib.hid (HB.out.trans (hal.mono HB.out.size))
  replace HF3 := Lib.hid (HF3.out.old hal)
  replace HY3 := Lib.hid (HY3.out.below hal)
  have g30 := HH3.out.cell 0 (by simp)
  simp at g30
  have g31 := HH3.out.cell 1 (by simp)
  simp at g31
  have g32 := HH3.out.cell 2 (by simp)
  simp at g32
  clear hal
  go_upto_region 9 with (first
    | (go_at_call 10; (with_reducible refine (HT2.out _ HB.out).mono ?_); rintro e w4 ⟨a4, n4, c4, d4, e4, f4, rfl, hAt, hBt, hB⟩; have HF4 := Lib.hid hAt; have HY4 := Lib.hid hBt; clear g30 g31 g32; replace HB := Lib.hid (HB.out.trans (hB.mono HB.out.size)); replace HH3 := Lib.hid (HH3.out.step hB); replace HF3 := Lib.hid (HF3.out.old hB); replace HY3 := Lib.hid (HY3.out.below hB); clear hAt hBt hB))
  have hal := (Below.refl w4.heap.size w4).alloc (Nat.le_refl _) (.cells #[.int .i64 P.code, .slice a4 n4 c4, .slice d4 e4 f4] 35)
  have HH4 := Lib.hid (HeldQ.new w4 #[.int .i64 P.code, .slice a4 n4 c4, .slice d4 e4 f4] 35)
  generalize w4.alloc (.cells #[.int .i64 P.code, .slice a4 n4 c4, .slice d4 e4 f4] 35) = W4 at *
  replace HB := Lib.hid (HB.out.trans (hal.mono HB.out.size))
  replace HH3 := Lib.hid (HH3.out.step hal)
  replace HF3 := Lib.hid (HF3.out.old hal)
  replace HY3 := Lib.hid (HY3.out.below hal)
  replace HF4 := Lib.hid (HF4.out.old hal)
  replace HY4 := Lib.hid (HY4.out.below hal)
  have g30 := HH3.out.cell 0 (by simp)
  simp at g30
  have g31 := HH3.out.cell 1 (by simp)
  simp at g31
  have g32 := HH3.out.cell 2 (by simp)
  simp at g32
  have g40 := HH4.out.cell 0 (by simp)
  simp at g40
  have g41 := HH4.out.cell 1 (by simp)
  simp at g41
  have g42 := HH4.out.cell 2 (by simp)
  simp at g42
  clear hal
  go_upto_region 10 with (first
    | (go_at_call 7; (with_reducible refine (HE2.out _ HB.out).mono ?_); rintro e w9 ⟨rfl, hB⟩; clear g30 g31 g32 g40 g41 g42; replace HB := Lib.hid (HB.out.trans (hB.mono HB.out.size)); replace HH3 := Lib.hid (HH3.out.step hB); replace HF3 := Lib.hid (HF3.out.old hB); replace HY3 := Lib.hid (HY3.out.below hB); replace HH4 := Lib.hid (HH4.out.step hB); replace HF4 := Lib.hid (HF4.out.old hB); replace HY4 := Lib.hid (HY4.out.below hB); have g30 := HH3.out.cell 0 (by simp); simp at g30; have g31 := HH3.out.cell 1 (by simp); simp at g31; have g32 := HH3.out.cell 2 (by simp); simp at g32; have g40 := HH4.out.cell 0 (by simp); simp at g40; have g41 := HH4.out.cell 1 (by simp); simp at g41; have g42 := HH4.out.cell 2 (by simp); simp at g42; clear hB))
  go_wp2_with (first
    | (go_at_call 11; (with_reducible refine (HSP.out _ _ _ _ _ HF4.out HF3.out HY4.out HY3.out).mono ?_); rintro e w9 ⟨rfl, hB⟩; clear g30 g31 g32 g40 g41 g42; replace HB := Lib.hid (HB.out.trans (hB.mono HB.out.size)); replace HH3 := Lib.hid (HH3.out.step hB); replace HF3 := Lib.hid (HF3.out.old hB); replace HY3 := Lib.hid (HY3.out.below hB); replace HH4 := Lib.hid (HH4.out.step hB); replace HF4 := Lib.hid (HF4.out.old hB); replace HY4 := Lib.hid (HY4.out.below hB); have g30 := HH3.out.cell 0 (by simp); simp at g30; have g31 := HH3.out.cell 1 (by simp); simp at g31; have g32 := HH3.out.cell 2 (by simp); simp at g32; have g40 := HH4.out.cell 0 (by simp); simp at g40; have g41 := HH4.out.cell 1 (by simp); simp at g41; have g42 := HH4.out.cell 2 (by simp); simp at g42; clear hB))
  go_ret
  exact ⟨by simp, HB.out⟩
end Go.Proofs.YtkohbbnnjakhjaaDoor.WalkLineReads
