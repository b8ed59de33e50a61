/-
  What is wrong with a message: package line's name, own, full, fields, CheckAsk, CheckTell.
  Conditions: none but where the data lie.
-/
import Derived.Test.YtooplackonnemaaDoorLineC
import Derived.Test.YtooplackonnemaaDoorFieldRows
import Derived.Test.YtooplackonnemaaDoorBytesAt
namespace Go.Proofs.YtooplackonnemaaDoor.LineM
open Go.RowKit Go.Shelf RowsK LineC FieldRows BA
set_option linter.unusedVariables false
set_option linter.unusedSimpArgs false

theorem bstep {w W W' : World} (h : Below w.heap.size w W) (h2 : Below W.heap.size W W') : Below w.heap.size w W' := h.trans (h2.mono h.size)
def nameL (l : List UInt8) : Bool := tokL l && l.all smallB
def ownB (s : ByteArray) : Bool := s.toList == [104, 111, 115, 116] || s.toList == [108, 101, 110, 103, 116, 104] || s.toList == [99, 111, 100, 105, 110, 103]
/-- The first fault of a list. -/
def firstE {α : Type} (g : α → Int) : List α → Int
  | [] => 0
  | a :: l => if g a ≠ 0 then g a else firstE g l
theorem firstE_app {α : Type} (g : α → Int) (l r : List α) : firstE g (l ++ r) = if firstE g l ≠ 0 then firstE g l else firstE g r := by
  induction l with
  | nil => simp [firstE]
  | cons a l ih =>
    rw [List.cons_append, firstE, firstE, ih]
    split <;> simp_all
theorem firstE_step {α : Type} {g : α → Int} {l : List α} {i : Nat} (hi : i < l.length) (h0 : firstE g (l.take i) = 0) : firstE g (l.take (i + 1)) = g l[i] := by
  rw [List.take_succ_eq_append_getElem hi, firstE_app, h0, if_neg (by simp)]
  unfold firstE firstE
  split <;> simp_all
theorem firstE_stop {α : Type} {g : α → Int} {l : List α} {i : Nat} (hi : i < l.length) (h0 : firstE g (l.take i) = 0) (hk : g l[i] ≠ 0) : firstE g l = g l[i] := by
  have h := firstE_step hi h0
  have e := firstE_app g (l.take (i + 1)) (l.drop (i + 1))
  rw [List.take_append_drop, h, if_pos hk] at e
  exact e
def fieldE1 (f : Fld) : Int := if !nameL f.1.data.toList || !plainL f.2.data.toList then 2 else if ownB f.1 then 3 else 0
def fieldsE (l : List Fld) : Int := firstE fieldE1 l
theorem fieldE1_cases (f : Fld) : fieldE1 f = 0 ∨ fieldE1 f = 2 ∨ fieldE1 f = 3 := by
  unfold fieldE1
  split
  · exact .inr (.inl rfl)
  · split
    · exact .inr (.inr rfl)
    · exact .inl rfl
theorem firstE_mem {α : Type} {g : α → Int} {l : List α} : firstE g l = 0 ∨ ∃ a ∈ l, g a = firstE g l := by
  induction l with
  | nil => exact .inl rfl
  | cons a l ih =>
    unfold firstE
    split
    · exact .inr ⟨a, by simp, rfl⟩
    · rcases ih with h | ⟨b, hb, h⟩
      · exact .inl h
      · exact .inr ⟨b, by simp [hb], h⟩
theorem fieldsE_cases (l : List Fld) : fieldsE l = 0 ∨ fieldsE l = 2 ∨ fieldsE l = 3 := by
  rcases firstE_mem (g := fieldE1) (l := l) with h | ⟨a, _, h⟩
  · exact .inl h
  · unfold fieldsE; rw [← h]; exact fieldE1_cases a
def errV (k : Int) : Value := if k = 0 then .nilIface else .iface 52 (.int .i64 k)
theorem errV0 : errV 0 = .nilIface := rfl
theorem errVk {k : Int} (h : k ≠ 0) : errV k = .iface 52 (.int .i64 k) := by unfold errV; rw [if_neg h]
theorem ascii_smalls : ∀ (j : Nat) b, (⟨smalls.toArray⟩ : ByteArray).data.toList[j]? = some b → b.toNat < 128 := fun j b h => by
  have hm := List.mem_of_getElem? h
  have : ∀ x ∈ smalls, x.toNat < 128 := by decide
  exact this b (by simpa using hm)
theorem tok_len {l : List UInt8} (h : tokL l = true) : l.length ≤ 400 ∧ l ≠ [] := by
  unfold tokL at h
  simp only [Bool.and_eq_true, decide_eq_true_eq, Bool.not_eq_true'] at h
  exact ⟨h.1.2, by intro e; rw [e] at h; simp at h⟩
set_option maxRecDepth 100000 in
set_option maxHeartbeats 4000000 in
theorem name_any (s : ByteArray) (w : World) : Calls Tryd.prog 44 #[.string s] w fun e w' => e = .returned (.bool (nameL s.data.toList)) ∧ Below w.heap.size w w' := by
  have HT := Lib.hid (token_any s)
  unfold nameL
  rcases h : tokL s.data.toList with _ | _
  · rw [h] at HT
    clear h
    go_enter Tryd.func44, Tryd.ntmps44
    go_wp2_with (go_at_call 26; (with_reducible refine (HT.out _).mono ?_); rintro e w1 ⟨rfl, hB1⟩)
    go_ret
    exact ⟨by simp, hB1⟩
  · have hl := (tok_len h).1
    rw [← size_list] at hl
    rw [h] at HT
    have HR := Lib.hid (fun w => trim_any s ⟨smalls.toArray⟩ w (by omega) (by decide) ascii_smalls)
    have hres : s.data.toList.all smallB = (⟨(Lib.trimS s.data.toList smalls).toArray⟩ : ByteArray).toList.isEmpty := by
      rw [emp_list]
      show _ = (Lib.trimS s.data.toList smalls).isEmpty
      rw [Bool.eq_iff_iff]
      simp only [List.isEmpty_iff, trimS_nil, smalls_small]
    rw [hres, Bool.true_and]
    generalize (⟨(Lib.trimS s.data.toList smalls).toArray⟩ : ByteArray) = t at *
    clear hres h hl
    go_enter Tryd.func44, Tryd.ntmps44
    go_wp2_with (first
      | (go_at_call 26; (with_reducible refine (HT.out _).mono ?_); rintro e w1 ⟨rfl, hB1⟩)
      | (go_at_call 39; (refine (HR.out _).mono ?_); rintro e w2 ⟨rfl, hB2⟩))
    go_ret
    exact ⟨by simp, bstep hB1 hB2⟩
theorem own_any (s : ByteArray) (w : World) : Calls Tryd.prog 45 #[.string s] w fun e w' => e = .returned (.bool (ownB s)) ∧ w = w' := by
  unfold ownB
  rcases h1 : (s.toList == [104, 111, 115, 116]) with _ | _
  · rcases h2 : (s.toList == [108, 101, 110, 103, 116, 104]) with _ | _
    · go_enter Tryd.func45, Tryd.ntmps45
      go_wp2_with fail
      go_ret
      exact ⟨by simp, rfl⟩
    · go_enter Tryd.func45, Tryd.ntmps45
      go_wp2_with fail
      go_ret
      exact ⟨by simp, rfl⟩
  · go_enter Tryd.func45, Tryd.ntmps45
    go_wp2_with fail
    go_ret
    exact ⟨by simp, rfl⟩
set_option maxRecDepth 100000 in
set_option maxHeartbeats 8000000 in
theorem fields_any (v : Value) (l : List Fld) (w : World) (hl : At encF w v l) :
    Calls Tryd.prog 32 #[v] w fun e w' => e = .returned (errV (fieldsE l)) ∧ Below w.heap.size w w' := by
  have HL := Lib.hid hl
  obtain ⟨a, cap, rfl, hcap, hcap2, _, hel⟩ := hl
  have HEL := Lib.hid hel
  obtain ⟨RR, hRR⟩ : ∃ R, fieldsE l = R := ⟨_, rfl⟩
  rw [hRR]
  unfold fieldsE at hRR
  have HR := Lib.hid hRR
  clear hRR hel
  have hn : (l.length : Int) ≤ 9223372036854775807 := by omega
  go_enter Tryd.func32, Tryd.ntmps32
  go_wp2_with fail
  go_loopw [7] (fun iv wi => ∃ (i : Nat), iv = .int .i64 i ∧ i ≤ l.length ∧ Hid (firstE fieldE1 (l.take i) = 0) ∧ Below w.heap.size w wi) (fun iv _ => l.length - (intOf iv).toNat)
  case atStart => exact ⟨0, rfl, by omega, Lib.hid rfl, Below.refl _ _⟩
  case round =>
    obtain ⟨i, rfl, hi, HZ, hB⟩ := hrel
    by_cases hin : i < l.length
    · obtain ⟨b, off, rfl, hb, hc⟩ := HEL.out i hin
      have c0 := (hB.cell (p := ⟨b, off + (i * 2 + 0), none⟩) hb).trans (hc 0 (by decide))
      have c1 := (hB.cell (p := ⟨b, off + (i * 2 + 1), none⟩) hb).trans (hc 1 (by decide))
      change _ = some (Value.string l[i].1) at c0
      change _ = some (Value.string l[i].2) at c1
      rw [← Nat.add_assoc] at c0 c1
      rw [Nat.add_zero] at c0
      have hi0 : (0 : Int) ≤ (i : Int) := by omega
      have hi1 : (i : Int) < (l.length : Int) := by omega
      have HST := Lib.hid (firstE_step hin HZ.out)
      have HSTOP := Lib.hid (fun h => firstE_stop hin HZ.out h)
      have hsz := hB.size
      obtain ⟨wo, rfl⟩ : ∃ wo : World, wo = wr := ⟨_, rfl⟩
      clear hc
      generalize l[i] = f at *
      obtain ⟨fa, fb⟩ := f
      simp only at c0 c1
      have hA : Hid (Below w.heap.size w (wo.alloc (.cells #[.string fa, .string fb] 33)) ∧ (wo.alloc (.cells #[.string fa, .string fb] 33)).cell? ⟨wo.heap.size, 0, none⟩ = some (.string fa) ∧ (wo.alloc (.cells #[.string fa, .string fb] 33)).cell? ⟨wo.heap.size, 1, none⟩ = some (.string fb) ∧ wo.heap.size < (wo.alloc (.cells #[.string fa, .string fb] 33)).heap.size) := (⟨hB.alloc hsz _, by simp, by simp, by simp⟩ : _ ∧ _ ∧ _ ∧ _)
      have hstp : ∀ W W' : World, Hid (Below w.heap.size w W ∧ W.cell? ⟨wo.heap.size, 0, none⟩ = some (.string fa) ∧ W.cell? ⟨wo.heap.size, 1, none⟩ = some (.string fb) ∧ wo.heap.size < W.heap.size) → Below W.heap.size W W' → Hid (Below w.heap.size w W' ∧ W'.cell? ⟨wo.heap.size, 0, none⟩ = some (.string fa) ∧ W'.cell? ⟨wo.heap.size, 1, none⟩ = some (.string fb) ∧ wo.heap.size < W'.heap.size) := fun W W' h h2 => (⟨bstep h.out.1 h2, (h2.cell (p := ⟨wo.heap.size, 0, none⟩) h.out.2.2.2).trans h.out.2.1, (h2.cell (p := ⟨wo.heap.size, 1, none⟩) h.out.2.2.2).trans h.out.2.2.1, Nat.lt_of_lt_of_le h.out.2.2.2 h2.size⟩ : _ ∧ _ ∧ _ ∧ _)
      have HSTP := Lib.hid hstp
      have HNM := Lib.hid (name_any fa)
      have HPL := Lib.hid (plain_any fb)
      have HOW := Lib.hid (own_any fa)
      have hfe : fieldE1 (fa, fb) = if !nameL fa.data.toList || !plainL fb.data.toList then 2 else if ownB fa then 3 else 0 := rfl
      rw [hfe] at HST HSTOP
      generalize nameL fa.data.toList = b1 at *
      generalize plainL fb.data.toList = b2 at *
      generalize ownB fa = b3 at *
      clear hfe hstp
      rcases b1 with _ | _
      · have hrr : RR = 2 := by rw [← HR.out, HSTOP.out (by simp)]; simp
        subst hrr
        go_wp2_with (first
          | (go_at_call 44; (with_reducible refine (HNM.out _).mono ?_); rintro e w1 ⟨rfl, hB1⟩; replace hA := HSTP.out _ _ hA hB1; have g0 := hA.out.2.1; have g1 := hA.out.2.2.1; clear hB1))
        go_ret
        exact ⟨rfl, hA.out.1⟩
      · rcases b2 with _ | _
        · have hrr : RR = 2 := by rw [← HR.out, HSTOP.out (by simp)]; simp
          subst hrr
          go_wp2_with (first
            | (go_at_call 44; (with_reducible refine (HNM.out _).mono ?_); rintro e w1 ⟨rfl, hB1⟩; replace hA := HSTP.out _ _ hA hB1; have g0 := hA.out.2.1; have g1 := hA.out.2.2.1; clear hB1)
            | (go_at_call 31; (with_reducible refine (HPL.out _).mono ?_); rintro e w1 ⟨rfl, hB1⟩; replace hA := HSTP.out _ _ hA hB1; have g0 := hA.out.2.1; have g1 := hA.out.2.2.1; clear hB1))
          go_ret
          exact ⟨rfl, hA.out.1⟩
        · rcases b3 with _ | _
          · go_wp2_with (first
              | (go_at_call 44; (with_reducible refine (HNM.out _).mono ?_); rintro e w1 ⟨rfl, hB1⟩; replace hA := HSTP.out _ _ hA hB1; have g0 := hA.out.2.1; have g1 := hA.out.2.2.1; clear hB1)
              | (go_at_call 31; (with_reducible refine (HPL.out _).mono ?_); rintro e w1 ⟨rfl, hB1⟩; replace hA := HSTP.out _ _ hA hB1; have g0 := hA.out.2.1; have g1 := hA.out.2.2.1; clear hB1)
              | (go_at_call 45; (with_reducible refine (HOW.out _).mono ?_); rintro e w1 ⟨rfl, rfl⟩))
            case roundEnd => exact ⟨⟨i + 1, rfl, by omega, HST, hA.out.1⟩, (by show l.length - ((i : Int) + 1).toNat < l.length - (i : Int).toNat; omega)⟩
          · have hrr : RR = 3 := by rw [← HR.out, HSTOP.out (by simp)]; simp
            subst hrr
            go_wp2_with (first
              | (go_at_call 44; (with_reducible refine (HNM.out _).mono ?_); rintro e w1 ⟨rfl, hB1⟩; replace hA := HSTP.out _ _ hA hB1; have g0 := hA.out.2.1; have g1 := hA.out.2.2.1; clear hB1)
              | (go_at_call 31; (with_reducible refine (HPL.out _).mono ?_); rintro e w1 ⟨rfl, hB1⟩; replace hA := HSTP.out _ _ hA hB1; have g0 := hA.out.2.1; have g1 := hA.out.2.2.1; clear hB1)
              | (go_at_call 45; (with_reducible refine (HOW.out _).mono ?_); rintro e w1 ⟨rfl, rfl⟩))
            go_ret
            exact ⟨rfl, hA.out.1⟩
    · obtain rfl : i = l.length := by omega
      have hrr : RR = 0 := by rw [← HR.out, ← HZ.out, List.take_length]
      subst hrr
      go_wp2_with fail
      go_ret
      exact ⟨rfl, hB⟩
def fullB (n m : Nat) : Bool := decide (40 < n) || decide (8000 < m)
theorem full_any (a : Option Addr) (n c : Nat) (b : Option Addr) (m d : Nat) (w : World) : Calls Tryd.prog 29 #[.slice a n c, .slice b m d] w fun e w' => e = .returned (.bool (fullB n m)) ∧ w = w' := by
  unfold fullB
  by_cases h : 40 < n
  · have h1 : decide ((40 : Int) < (n : Int)) = true := decide_eq_true (by omega)
    rw [decide_eq_true h]
    clear h
    go_enter Tryd.func29, Tryd.ntmps29
    go_wp2_with fail
    go_ret
    exact ⟨by simp, rfl⟩
  · have h1 : decide ((40 : Int) < (n : Int)) = false := decide_eq_false (by omega)
    rw [decide_eq_false h]
    have h2 : decide (8000 < m) = decide ((8000 : Int) < (m : Int)) := by
      by_cases hm : 8000 < m
      · rw [decide_eq_true hm, decide_eq_true (by omega)]
      · rw [decide_eq_false hm, decide_eq_false (by omega)]
    rw [h2]
    clear h h2
    go_enter Tryd.func29, Tryd.ntmps29
    go_wp2_with fail
    go_ret
    exact ⟨by simp, rfl⟩
/-- A request; a reply. -/
structure Rq where
  method : ByteArray
  path : ByteArray
  host : ByteArray
  fields : List Fld
  body : List Int
structure Rp where
  code : Int
  fields : List Fld
  body : List Int
def rqV (r : Rq) (vf vb : Value) : Value := .agg #[.string r.method, .string r.path, .string r.host, vf, vb]
def rpV (r : Rp) (vf vb : Value) : Value := .agg #[.int .i64 r.code, vf, vb]
def askE (r : Rq) : Int := if fullB r.fields.length r.body.length then 4 else
  if !tokL r.method.data.toList || !wordL r.path.data.toList || r.host.toList.isEmpty || !plainL r.host.data.toList then 2 else fieldsE r.fields
def tellE (r : Rp) (size : Int) : Int := if fullB r.fields.length r.body.length then 4 else
  if decide (r.code < 100) || decide (599 < r.code) || decide (size < 0) then 1 else fieldsE r.fields
/-- The block of a request's copy, still as it was laid. -/
structure HeldQ (w W : World) (cs : Array Value) : Prop where
  bel : Below w.heap.size w W
  lt : w.heap.size < W.heap.size
  cell : ∀ i, i < cs.size → W.cell? ⟨w.heap.size, i, none⟩ = cs[i]?
theorem HeldQ.step {w W W' : World} {cs : Array Value} (h : HeldQ w W cs) (hB : Below W.heap.size W W') : HeldQ w W' cs :=
  ⟨bstep h.bel hB, Nat.lt_of_lt_of_le h.lt hB.size, fun i hi => (hB.cell (p := ⟨w.heap.size, i, none⟩) h.lt).trans (h.cell i hi)⟩
theorem HeldQ.new (w : World) (cs : Array Value) (t : TypeId) : HeldQ w (w.alloc (.cells cs t)) cs := ⟨(Below.refl _ _).alloc (Nat.le_refl _) _, by simp, fun i _ => by simp⟩
set_option maxRecDepth 100000 in
set_option maxHeartbeats 8000000 in
theorem checkAsk_any (r : Rq) (vf vb : Value) (w : World) (hf : At encF w vf r.fields) (hb : BytesAt w vb r.body) :
    Calls Tryd.prog 11 #[rqV r vf vb] w fun e w' => e = .returned (errV (askE r)) ∧ Below w.heap.size w w' := by
  have HFI := Lib.hid (fun (W : World) (hW : Below w.heap.size w W) => fields_any vf r.fields W (hf.old hW))
  obtain ⟨af, cf, rfl, hf'⟩ := hf
  obtain ⟨ab, cb, rfl, hb'⟩ := hb.open
  clear hf' hb' hb
  have HFU := Lib.hid (full_any af r.fields.length cf ab r.body.length cb)
  have HT := Lib.hid (token_any r.method)
  have HW := Lib.hid (word_any r.path)
  have HP := Lib.hid (plain_any r.host)
  unfold rqV askE
  have hfc := fieldsE_cases r.fields
  generalize fullB r.fields.length r.body.length = b0 at *
  generalize tokL r.method.data.toList = b1 at *
  generalize wordL r.path.data.toList = b2 at *
  generalize plainL r.host.data.toList = b4 at *
  generalize fieldsE r.fields = q at *
  generalize hlf : r.fields.length = lf at *
  generalize hlb : r.body.length = lb at *
  obtain ⟨rm, rp, rh, rf, rb⟩ := r
  simp only at *
  clear hlf hlb
  have HS := Lib.hid (HeldQ.new w #[.string rm, .string rp, .string rh, .slice af lf cf, .slice ab lb cb] 25)
  rcases b0 with _ | _
  · rcases b1 with _ | _
    · rw [show (if false = true then (4 : Int) else if (!false || !b2 || rh.toList.isEmpty || !b4) = true then 2 else q) = 2 by simp, errVk (by decide)]
      go_enter Tryd.func11, Tryd.ntmps11
      go_wp2_with (first
        | (go_at_call 29; (with_reducible refine (HFU.out _).mono ?_); rintro e w1 ⟨rfl, rfl⟩)
        | (go_at_call 26; (with_reducible refine (HT.out _).mono ?_); rintro e w1 ⟨rfl, hB1⟩; replace HS := Lib.hid (HS.out.step hB1); clear hB1; have g0 := HS.out.cell 0 (by simp); have g1 := HS.out.cell 1 (by simp); have g2 := HS.out.cell 2 (by simp); have g3 := HS.out.cell 3 (by simp); have g4 := HS.out.cell 4 (by simp); simp at g0 g1 g2 g3 g4)
        | (go_at_call 30; (with_reducible refine (HW.out _).mono ?_); rintro e w1 ⟨rfl, hB1⟩; replace HS := Lib.hid (HS.out.step hB1); clear hB1; have g0 := HS.out.cell 0 (by simp); have g1 := HS.out.cell 1 (by simp); have g2 := HS.out.cell 2 (by simp); have g3 := HS.out.cell 3 (by simp); have g4 := HS.out.cell 4 (by simp); simp at g0 g1 g2 g3 g4)
        | (go_at_call 31; (with_reducible refine (HP.out _).mono ?_); rintro e w1 ⟨rfl, hB1⟩; replace HS := Lib.hid (HS.out.step hB1); clear hB1; have g0 := HS.out.cell 0 (by simp); have g1 := HS.out.cell 1 (by simp); have g2 := HS.out.cell 2 (by simp); have g3 := HS.out.cell 3 (by simp); have g4 := HS.out.cell 4 (by simp); simp at g0 g1 g2 g3 g4)
        | (go_at_call 32; (with_reducible refine (HFI.out _ HS.out.bel).mono ?_); rintro e w1 ⟨rfl, hB1⟩; replace HS := Lib.hid (HS.out.step hB1); clear hB1; have g0 := HS.out.cell 0 (by simp); have g1 := HS.out.cell 1 (by simp); have g2 := HS.out.cell 2 (by simp); have g3 := HS.out.cell 3 (by simp); have g4 := HS.out.cell 4 (by simp); simp at g0 g1 g2 g3 g4))
      go_ret
      exact ⟨rfl, HS.out.bel⟩
    · rcases b2 with _ | _
      · rw [show (if false = true then (4 : Int) else if (!true || !false || rh.toList.isEmpty || !b4) = true then 2 else q) = 2 by simp, errVk (by decide)]
        go_enter Tryd.func11, Tryd.ntmps11
        go_wp2_with (first
        | (go_at_call 29; (with_reducible refine (HFU.out _).mono ?_); rintro e w1 ⟨rfl, rfl⟩)
        | (go_at_call 26; (with_reducible refine (HT.out _).mono ?_); rintro e w1 ⟨rfl, hB1⟩; replace HS := Lib.hid (HS.out.step hB1); clear hB1; have g0 := HS.out.cell 0 (by simp); have g1 := HS.out.cell 1 (by simp); have g2 := HS.out.cell 2 (by simp); have g3 := HS.out.cell 3 (by simp); have g4 := HS.out.cell 4 (by simp); simp at g0 g1 g2 g3 g4)
        | (go_at_call 30; (with_reducible refine (HW.out _).mono ?_); rintro e w1 ⟨rfl, hB1⟩; replace HS := Lib.hid (HS.out.step hB1); clear hB1; have g0 := HS.out.cell 0 (by simp); have g1 := HS.out.cell 1 (by simp); have g2 := HS.out.cell 2 (by simp); have g3 := HS.out.cell 3 (by simp); have g4 := HS.out.cell 4 (by simp); simp at g0 g1 g2 g3 g4)
        | (go_at_call 31; (with_reducible refine (HP.out _).mono ?_); rintro e w1 ⟨rfl, hB1⟩; replace HS := Lib.hid (HS.out.step hB1); clear hB1; have g0 := HS.out.cell 0 (by simp); have g1 := HS.out.cell 1 (by simp); have g2 := HS.out.cell 2 (by simp); have g3 := HS.out.cell 3 (by simp); have g4 := HS.out.cell 4 (by simp); simp at g0 g1 g2 g3 g4)
        | (go_at_call 32; (with_reducible refine (HFI.out _ HS.out.bel).mono ?_); rintro e w1 ⟨rfl, hB1⟩; replace HS := Lib.hid (HS.out.step hB1); clear hB1; have g0 := HS.out.cell 0 (by simp); have g1 := HS.out.cell 1 (by simp); have g2 := HS.out.cell 2 (by simp); have g3 := HS.out.cell 3 (by simp); have g4 := HS.out.cell 4 (by simp); simp at g0 g1 g2 g3 g4))
        go_ret
        exact ⟨rfl, HS.out.bel⟩
      · rcases b3 : rh.toList.isEmpty with _ | _
        · rcases b4 with _ | _
          · rw [show (if false = true then (4 : Int) else if (!true || !true || false || !false) = true then 2 else q) = 2 by simp, errVk (by decide)]
            go_enter Tryd.func11, Tryd.ntmps11
            go_wp2_with (first
        | (go_at_call 29; (with_reducible refine (HFU.out _).mono ?_); rintro e w1 ⟨rfl, rfl⟩)
        | (go_at_call 26; (with_reducible refine (HT.out _).mono ?_); rintro e w1 ⟨rfl, hB1⟩; replace HS := Lib.hid (HS.out.step hB1); clear hB1; have g0 := HS.out.cell 0 (by simp); have g1 := HS.out.cell 1 (by simp); have g2 := HS.out.cell 2 (by simp); have g3 := HS.out.cell 3 (by simp); have g4 := HS.out.cell 4 (by simp); simp at g0 g1 g2 g3 g4)
        | (go_at_call 30; (with_reducible refine (HW.out _).mono ?_); rintro e w1 ⟨rfl, hB1⟩; replace HS := Lib.hid (HS.out.step hB1); clear hB1; have g0 := HS.out.cell 0 (by simp); have g1 := HS.out.cell 1 (by simp); have g2 := HS.out.cell 2 (by simp); have g3 := HS.out.cell 3 (by simp); have g4 := HS.out.cell 4 (by simp); simp at g0 g1 g2 g3 g4)
        | (go_at_call 31; (with_reducible refine (HP.out _).mono ?_); rintro e w1 ⟨rfl, hB1⟩; replace HS := Lib.hid (HS.out.step hB1); clear hB1; have g0 := HS.out.cell 0 (by simp); have g1 := HS.out.cell 1 (by simp); have g2 := HS.out.cell 2 (by simp); have g3 := HS.out.cell 3 (by simp); have g4 := HS.out.cell 4 (by simp); simp at g0 g1 g2 g3 g4)
        | (go_at_call 32; (with_reducible refine (HFI.out _ HS.out.bel).mono ?_); rintro e w1 ⟨rfl, hB1⟩; replace HS := Lib.hid (HS.out.step hB1); clear hB1; have g0 := HS.out.cell 0 (by simp); have g1 := HS.out.cell 1 (by simp); have g2 := HS.out.cell 2 (by simp); have g3 := HS.out.cell 3 (by simp); have g4 := HS.out.cell 4 (by simp); simp at g0 g1 g2 g3 g4))
            go_ret
            exact ⟨rfl, HS.out.bel⟩
          · rw [show (if false = true then (4 : Int) else if (!true || !true || false || !true) = true then 2 else q) = q by simp]
            obtain ⟨qv, hqv⟩ : ∃ v, errV q = v := ⟨_, rfl⟩
            rw [hqv] at HFI ⊢
            clear hqv hfc
            go_enter Tryd.func11, Tryd.ntmps11
            go_wp2_with (first
        | (go_at_call 29; (with_reducible refine (HFU.out _).mono ?_); rintro e w1 ⟨rfl, rfl⟩)
        | (go_at_call 26; (with_reducible refine (HT.out _).mono ?_); rintro e w1 ⟨rfl, hB1⟩; replace HS := Lib.hid (HS.out.step hB1); clear hB1; have g0 := HS.out.cell 0 (by simp); have g1 := HS.out.cell 1 (by simp); have g2 := HS.out.cell 2 (by simp); have g3 := HS.out.cell 3 (by simp); have g4 := HS.out.cell 4 (by simp); simp at g0 g1 g2 g3 g4)
        | (go_at_call 30; (with_reducible refine (HW.out _).mono ?_); rintro e w1 ⟨rfl, hB1⟩; replace HS := Lib.hid (HS.out.step hB1); clear hB1; have g0 := HS.out.cell 0 (by simp); have g1 := HS.out.cell 1 (by simp); have g2 := HS.out.cell 2 (by simp); have g3 := HS.out.cell 3 (by simp); have g4 := HS.out.cell 4 (by simp); simp at g0 g1 g2 g3 g4)
        | (go_at_call 31; (with_reducible refine (HP.out _).mono ?_); rintro e w1 ⟨rfl, hB1⟩; replace HS := Lib.hid (HS.out.step hB1); clear hB1; have g0 := HS.out.cell 0 (by simp); have g1 := HS.out.cell 1 (by simp); have g2 := HS.out.cell 2 (by simp); have g3 := HS.out.cell 3 (by simp); have g4 := HS.out.cell 4 (by simp); simp at g0 g1 g2 g3 g4)
        | (go_at_call 32; (with_reducible refine (HFI.out _ HS.out.bel).mono ?_); rintro e w1 ⟨rfl, hB1⟩; replace HS := Lib.hid (HS.out.step hB1); clear hB1; have g0 := HS.out.cell 0 (by simp); have g1 := HS.out.cell 1 (by simp); have g2 := HS.out.cell 2 (by simp); have g3 := HS.out.cell 3 (by simp); have g4 := HS.out.cell 4 (by simp); simp at g0 g1 g2 g3 g4))
            go_ret
            exact ⟨rfl, HS.out.bel⟩
        · rw [show (if false = true then (4 : Int) else if (!true || !true || true || !b4) = true then 2 else q) = 2 by simp, errVk (by decide)]
          go_enter Tryd.func11, Tryd.ntmps11
          go_wp2_with (first
        | (go_at_call 29; (with_reducible refine (HFU.out _).mono ?_); rintro e w1 ⟨rfl, rfl⟩)
        | (go_at_call 26; (with_reducible refine (HT.out _).mono ?_); rintro e w1 ⟨rfl, hB1⟩; replace HS := Lib.hid (HS.out.step hB1); clear hB1; have g0 := HS.out.cell 0 (by simp); have g1 := HS.out.cell 1 (by simp); have g2 := HS.out.cell 2 (by simp); have g3 := HS.out.cell 3 (by simp); have g4 := HS.out.cell 4 (by simp); simp at g0 g1 g2 g3 g4)
        | (go_at_call 30; (with_reducible refine (HW.out _).mono ?_); rintro e w1 ⟨rfl, hB1⟩; replace HS := Lib.hid (HS.out.step hB1); clear hB1; have g0 := HS.out.cell 0 (by simp); have g1 := HS.out.cell 1 (by simp); have g2 := HS.out.cell 2 (by simp); have g3 := HS.out.cell 3 (by simp); have g4 := HS.out.cell 4 (by simp); simp at g0 g1 g2 g3 g4)
        | (go_at_call 31; (with_reducible refine (HP.out _).mono ?_); rintro e w1 ⟨rfl, hB1⟩; replace HS := Lib.hid (HS.out.step hB1); clear hB1; have g0 := HS.out.cell 0 (by simp); have g1 := HS.out.cell 1 (by simp); have g2 := HS.out.cell 2 (by simp); have g3 := HS.out.cell 3 (by simp); have g4 := HS.out.cell 4 (by simp); simp at g0 g1 g2 g3 g4)
        | (go_at_call 32; (with_reducible refine (HFI.out _ HS.out.bel).mono ?_); rintro e w1 ⟨rfl, hB1⟩; replace HS := Lib.hid (HS.out.step hB1); clear hB1; have g0 := HS.out.cell 0 (by simp); have g1 := HS.out.cell 1 (by simp); have g2 := HS.out.cell 2 (by simp); have g3 := HS.out.cell 3 (by simp); have g4 := HS.out.cell 4 (by simp); simp at g0 g1 g2 g3 g4))
          go_ret
          exact ⟨rfl, HS.out.bel⟩
  · rw [show (if true = true then (4 : Int) else if (!b1 || !b2 || rh.toList.isEmpty || !b4) = true then 2 else q) = 4 by simp, errVk (by decide)]
    go_enter Tryd.func11, Tryd.ntmps11
    go_wp2_with (first
        | (go_at_call 29; (with_reducible refine (HFU.out _).mono ?_); rintro e w1 ⟨rfl, rfl⟩)
        | (go_at_call 26; (with_reducible refine (HT.out _).mono ?_); rintro e w1 ⟨rfl, hB1⟩; replace HS := Lib.hid (HS.out.step hB1); clear hB1; have g0 := HS.out.cell 0 (by simp); have g1 := HS.out.cell 1 (by simp); have g2 := HS.out.cell 2 (by simp); have g3 := HS.out.cell 3 (by simp); have g4 := HS.out.cell 4 (by simp); simp at g0 g1 g2 g3 g4)
        | (go_at_call 30; (with_reducible refine (HW.out _).mono ?_); rintro e w1 ⟨rfl, hB1⟩; replace HS := Lib.hid (HS.out.step hB1); clear hB1; have g0 := HS.out.cell 0 (by simp); have g1 := HS.out.cell 1 (by simp); have g2 := HS.out.cell 2 (by simp); have g3 := HS.out.cell 3 (by simp); have g4 := HS.out.cell 4 (by simp); simp at g0 g1 g2 g3 g4)
        | (go_at_call 31; (with_reducible refine (HP.out _).mono ?_); rintro e w1 ⟨rfl, hB1⟩; replace HS := Lib.hid (HS.out.step hB1); clear hB1; have g0 := HS.out.cell 0 (by simp); have g1 := HS.out.cell 1 (by simp); have g2 := HS.out.cell 2 (by simp); have g3 := HS.out.cell 3 (by simp); have g4 := HS.out.cell 4 (by simp); simp at g0 g1 g2 g3 g4)
        | (go_at_call 32; (with_reducible refine (HFI.out _ HS.out.bel).mono ?_); rintro e w1 ⟨rfl, hB1⟩; replace HS := Lib.hid (HS.out.step hB1); clear hB1; have g0 := HS.out.cell 0 (by simp); have g1 := HS.out.cell 1 (by simp); have g2 := HS.out.cell 2 (by simp); have g3 := HS.out.cell 3 (by simp); have g4 := HS.out.cell 4 (by simp); simp at g0 g1 g2 g3 g4))
    go_ret
    exact ⟨rfl, HS.out.bel⟩
set_option maxRecDepth 100000 in
set_option maxHeartbeats 8000000 in
theorem checkTell_any (r : Rp) (vf vb : Value) (size : Int) (w : World) (hf : At encF w vf r.fields) (hb : BytesAt w vb r.body) :
    Calls Tryd.prog 17 #[rpV r vf vb, .int .i64 size] w fun e w' => e = .returned (errV (tellE r size)) ∧ Below w.heap.size w w' := by
  have HFI := Lib.hid (fun (W : World) (hW : Below w.heap.size w W) => fields_any vf r.fields W (hf.old hW))
  obtain ⟨af, cf, rfl, hf'⟩ := hf
  obtain ⟨ab, cb, rfl, hb'⟩ := hb.open
  clear hf' hb' hb
  have HFU := Lib.hid (full_any af r.fields.length cf ab r.body.length cb)
  unfold rpV tellE
  generalize fullB r.fields.length r.body.length = b0 at *
  generalize fieldsE r.fields = q at *
  generalize hlf : r.fields.length = lf at *
  generalize hlb : r.body.length = lb at *
  obtain ⟨rc, rf, rb⟩ := r
  simp only at *
  clear hlf hlb
  have HS := Lib.hid (HeldQ.new w #[.int .i64 rc, .slice af lf cf, .slice ab lb cb] 27)
  rcases b0 with _ | _
  · by_cases h1 : rc < 100
    · have e1 : decide (rc < 100) = true := decide_eq_true h1
      rw [e1, show (if false = true then (4 : Int) else if (true || decide (599 < rc) || decide (size < 0)) = true then 1 else q) = 1 by simp, errVk (by decide)]
      go_enter Tryd.func17, Tryd.ntmps17
      go_wp2_with (first | (go_at_call 29; (with_reducible refine (HFU.out _).mono ?_); rintro e w1 ⟨rfl, rfl⟩) | (go_at_call 32; (with_reducible refine (HFI.out _ HS.out.bel).mono ?_); rintro e w1 ⟨rfl, hB1⟩; replace HS := Lib.hid (HS.out.step hB1); clear hB1))
      go_ret
      exact ⟨rfl, HS.out.bel⟩
    · have e1 : decide (rc < 100) = false := decide_eq_false h1
      by_cases h2 : 599 < rc
      · have e2 : decide (599 < rc) = true := decide_eq_true h2
        rw [e1, e2, show (if false = true then (4 : Int) else if (false || true || decide (size < 0)) = true then 1 else q) = 1 by simp, errVk (by decide)]
        go_enter Tryd.func17, Tryd.ntmps17
        go_wp2_with (first | (go_at_call 29; (with_reducible refine (HFU.out _).mono ?_); rintro e w1 ⟨rfl, rfl⟩) | (go_at_call 32; (with_reducible refine (HFI.out _ HS.out.bel).mono ?_); rintro e w1 ⟨rfl, hB1⟩; replace HS := Lib.hid (HS.out.step hB1); clear hB1))
        go_ret
        exact ⟨rfl, HS.out.bel⟩
      · have e2 : decide (599 < rc) = false := decide_eq_false h2
        by_cases h3 : size < 0
        · have e3 : decide (size < 0) = true := decide_eq_true h3
          rw [e1, e2, e3, show (if false = true then (4 : Int) else if (false || false || true) = true then 1 else q) = 1 by simp, errVk (by decide)]
          go_enter Tryd.func17, Tryd.ntmps17
          go_wp2_with (first | (go_at_call 29; (with_reducible refine (HFU.out _).mono ?_); rintro e w1 ⟨rfl, rfl⟩) | (go_at_call 32; (with_reducible refine (HFI.out _ HS.out.bel).mono ?_); rintro e w1 ⟨rfl, hB1⟩; replace HS := Lib.hid (HS.out.step hB1); clear hB1))
          go_ret
          exact ⟨rfl, HS.out.bel⟩
        · have e3 : decide (size < 0) = false := decide_eq_false h3
          rw [e1, e2, e3, show (if false = true then (4 : Int) else if (false || false || false) = true then 1 else q) = q by simp]
          obtain ⟨qv, hqv⟩ : ∃ v, errV q = v := ⟨_, rfl⟩
          rw [hqv] at HFI ⊢
          clear hqv
          go_enter Tryd.func17, Tryd.ntmps17
          go_wp2_with (first | (go_at_call 29; (with_reducible refine (HFU.out _).mono ?_); rintro e w1 ⟨rfl, rfl⟩) | (go_at_call 32; (with_reducible refine (HFI.out _ HS.out.bel).mono ?_); rintro e w1 ⟨rfl, hB1⟩; replace HS := Lib.hid (HS.out.step hB1); clear hB1))
          go_ret
          exact ⟨rfl, HS.out.bel⟩
  · rw [show (if true = true then (4 : Int) else if (decide (rc < 100) || decide (599 < rc) || decide (size < 0)) = true then 1 else q) = 4 by simp, errVk (by decide)]
    go_enter Tryd.func17, Tryd.ntmps17
    go_wp2_with (first | (go_at_call 29; (with_reducible refine (HFU.out _).mono ?_); rintro e w1 ⟨rfl, rfl⟩) | (go_at_call 32; (with_reducible refine (HFI.out _ HS.out.bel).mono ?_); rintro e w1 ⟨rfl, hB1⟩; replace HS := Lib.hid (HS.out.step hB1); clear hB1))
    go_ret
    exact ⟨rfl, HS.out.bel⟩
end Go.Proofs.YtooplackonnemaaDoor.LineM
