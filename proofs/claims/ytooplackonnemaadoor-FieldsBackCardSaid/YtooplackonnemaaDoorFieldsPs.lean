/-
  fields.pseudo over this seat's translation: of the three that are ahead, and a rest without such.
  Conditions: where the data lie.
-/
import Derived.Test.YtooplackonnemaaDoorFieldsRep
import Derived.Test.YtooplackonnemaaDoorMaps
namespace Go.Proofs.YtooplackonnemaaDoor.FieldsC
open Go.RowKit Go.Shelf RowsK RowsM FieldRows LineC LineM BA RoundL AfterL MapsL Go.Maps Go.WideAt
set_option linter.unusedVariables false
set_option linter.unusedSimpArgs false

theorem run_look {P : Program} {w : World} (c : Bool) (t : TypeId) (k e : TypeId) (K : Maps.Keyed P k) (ht : P.underlying t = some (.map k e)) (z : Value) (hz : (zeroValue e).run P w = .ok z w) (b : Nat) (l : AL)
    (hown : MapIs w P k b l) (key : Value) (kl : Lit) (hkey : keyOf P k key = some kl) :
    (Instr.lookup t (.map (some b)) key c).run P w = .ok (if c then .tuple #[(find l kl).getD z, .bool (find l kl).isSome] else (find l kl).getD z) w := by
  obtain ⟨hk, es, ⟨es0, clock, hb, F, hs, hD⟩, hp⟩ := hown
  have hat : ∀ zd, (DataW.map es).atKey kl zd = _ := enc_at hk hp kl
  rw [hD] at hat
  rcases Maps.fit_look c K ht hz hb F hkey with ⟨hrun, _, h2⟩ | ⟨e0, y, _, _, hrun, hRv, h2, _⟩
  · have hf : find l kl = none := by
      cases hf : find l kl with
      | none => rfl
      | some v => have := (h2 .nil).symm.trans (hat .nil); rw [hf] at this; cases this
    rw [hf, hrun]; rfl
  · have hy : y = (.held e0.val, []) := (Option.some.inj hRv).symm
    have hf : find l kl = some e0.val := by
      cases hf : find l kl with
      | none => have := (h2 .nil).symm.trans (hat .nil); rw [hf, hy] at this; cases this
      | some v => have := (h2 .nil).symm.trans (hat .nil); rw [hf, hy] at this; cases this; rfl
    rw [hf, hrun]; rfl
theorem keyedF : Maps.Keyed Tryd.prog 9 := Maps.string_keyed Tryd.underlying9
theorem keyF (s : ByteArray) (hs : s.size ≤ maxLen) : keyOf Tryd.prog 9 (.string s) = some (.string s.data.toList) := Go.WideMaps.keyOf_string_mk Tryd.underlying9 hs
def mN : ByteArray := ⟨#[58, 109, 101, 116, 104, 111, 100]⟩
def pN : ByteArray := ⟨#[58, 112, 97, 116, 104]⟩
def hN : ByteArray := ⟨#[58, 104, 111, 115, 116]⟩
def toL (R : Nat) : AL := [(.string mN.data.toList, .pointer (some ⟨R, 0, none⟩)), (.string pN.data.toList, .pointer (some ⟨R, 1, none⟩)), (.string hN.data.toList, .pointer (some ⟨R, 2, none⟩))]
def seenL : Nat → AL
  | 0 => []
  | 1 => [(.string mN.data.toList, .bool true)]
  | 2 => [(.string mN.data.toList, .bool true), (.string pN.data.toList, .bool true)]
  | _ => [(.string mN.data.toList, .bool true), (.string pN.data.toList, .bool true), (.string hN.data.toList, .bool true)]
/-- pseudo's state: how many of the three it has. -/
structure PsS (w W : World) (R M S : Nat) (m p h : ByteArray) (j : Nat) : Prop where
  tom : MapIs W Tryd.prog 9 M (toL R)
  seen : MapIs W Tryd.prog 9 S (seenL j)
  c0 : ∃ v, W.cell? ⟨R, 0, none⟩ = some v ∧ (1 ≤ j → v = .string m)
  c1 : ∃ v, W.cell? ⟨R, 1, none⟩ = some v ∧ (2 ≤ j → v = .string p)
  c2 : ∃ v, W.cell? ⟨R, 2, none⟩ = some v ∧ (3 ≤ j → v = .string h)
  fr : ∀ i, W.frozen? ⟨R, i, none⟩ = w.frozen? ⟨R, i, none⟩
  old : ∀ i, 3 ≤ i → W.cell? ⟨R, i, none⟩ = w.cell? ⟨R, i, none⟩
  blk : ∀ k, k < w.heap.size → k ≠ R → W.heap[k]? = w.heap[k]?
  sz : w.heap.size ≤ W.heap.size
  os : W.os = w.os
  tape : W.tape = w.tape
  out : W.output = w.output
  lt : M < w.heap.size ∧ R < w.heap.size ∧ w.heap.size ≤ S ∧ M ≠ R
theorem PsS.step {w W W' : World} {R M S : Nat} {m p h : ByteArray} {j : Nat} (g : PsS w W R M S m p h j) (hB : Below W.heap.size W W') : PsS w W' R M S m p h j := by
  have hz := g.sz
  have hR : R < W.heap.size := by have := g.lt.2.1; omega
  have ce : ∀ i, W'.cell? ⟨R, i, none⟩ = W.cell? ⟨R, i, none⟩ := fun i => hB.cell (p := ⟨R, i, none⟩) hR
  have fe : ∀ i, W'.frozen? ⟨R, i, none⟩ = W.frozen? ⟨R, i, none⟩ := fun i => hB.frozen (p := ⟨R, i, none⟩) hR
  refine ⟨g.tom.below hB g.tom.lt, g.seen.below hB g.seen.lt, by rw [ce]; exact g.c0, by rw [ce]; exact g.c1, by rw [ce]; exact g.c2, fun i => (fe i).trans (g.fr i), fun i hi => (ce i).trans (g.old i hi), fun k hk hne => (hB.block k (by omega)).trans (g.blk k hk hne), by have := hB.size; omega, hB.os.trans g.os, hB.tape.trans g.tape, hB.output.trans g.out, g.lt⟩
theorem PsS.grown {w W W' : World} {R M S : Nat} {m p h : ByteArray} {j : Nat} {row : Option Nat} (g : PsS w W R M S m p h j) (hg : W.grownBy W' row) (hr : ∀ k, row = some k → w.heap.size ≤ k ∧ k ≠ S) : PsS w W' R M S m p h j := by
  have hz := g.sz
  have hl := g.lt
  have hR : R < W.heap.size := by omega
  have bR : W'.heap[R]? = W.heap[R]? := hg.block R hR fun e => by have := (hr R e.symm).1; omega
  have ce : ∀ i, W'.cell? ⟨R, i, none⟩ = W.cell? ⟨R, i, none⟩ := fun i => World.cell?_of_block (a := ⟨R, i, none⟩) bR
  have fe : ∀ i, W'.frozen? ⟨R, i, none⟩ = W.frozen? ⟨R, i, none⟩ := fun i => World.frozen?_of_block (a := ⟨R, i, none⟩) bR
  refine ⟨g.tom.kept hg fun e => by have := (hr M e.symm).1; omega, g.seen.kept hg fun e => (hr S e.symm).2 rfl, by rw [ce]; exact g.c0, by rw [ce]; exact g.c1, by rw [ce]; exact g.c2, fun i => (fe i).trans (g.fr i), fun i hi => (ce i).trans (g.old i hi), fun k hk hne => (hg.block k (by omega) fun e => by have := (hr k e.symm).1; omega).trans (g.blk k hk hne), by have := hg.size; omega, hg.os.trans g.os, hg.tape.trans g.tape, hg.output.trans g.out, hl⟩
theorem PsS.put0 {w W W2 : World} {R M S : Nat} {m p h : ByteArray} (g : PsS w W R M S m p h 0) (hm : MapIs W2 Tryd.prog 9 S (seenL 1)) (hg : W.grownBy W2 (some S)) : PsS w (W2.setCell ⟨R, 0, none⟩ (.string m)) R M S m p h 1 := by
  have hz := g.sz
  have hl := g.lt
  have bR : W2.heap[R]? = W.heap[R]? := hg.block R (by omega) fun e => by have := Option.some.inj e; omega
  have ce : ∀ i, W2.cell? ⟨R, i, none⟩ = W.cell? ⟨R, i, none⟩ := fun i => World.cell?_of_block (a := ⟨R, i, none⟩) bR
  have fe : ∀ i, W2.frozen? ⟨R, i, none⟩ = W.frozen? ⟨R, i, none⟩ := fun i => World.frozen?_of_block (a := ⟨R, i, none⟩) bR
  have co : ∀ i, i ≠ 0 → (W2.setCell ⟨R, 0, none⟩ (.string m)).cell? ⟨R, i, none⟩ = W.cell? ⟨R, i, none⟩ := fun i hi => (World.cell?_setCell_other _ _ _ _ (fun e => hi (by simpa using (congrArg Addr.off e).symm))).trans (ce i)
  refine ⟨(g.tom.kept hg fun e => by have := Option.some.inj e; omega).setCell _ _ (by simp only; omega), hm.setCell _ _ (by simp only; omega), by obtain ⟨v, hv, -⟩ := g.c0; exact ⟨_, World.cell?_setCell_same _ _ _ ((ce 0).trans hv), fun _ => rfl⟩, by obtain ⟨v, hv, h'⟩ := g.c1; exact ⟨v, (co 1 (by decide)).trans hv, fun hj => h' (by omega)⟩, by obtain ⟨v, hv, h'⟩ := g.c2; exact ⟨v, (co 2 (by decide)).trans hv, fun hj => h' (by omega)⟩, fun i => by simp; exact (fe i).trans (g.fr i), fun i hi => (co i (by omega)).trans (g.old i hi), fun k hk hne => (Below.heap_setCell _ _ _ _ hne).trans ((hg.block k (by omega) fun e => by have := Option.some.inj e; omega).trans (g.blk k hk hne)), by have := hg.size; simp; omega, hg.os.trans g.os, hg.tape.trans g.tape, hg.output.trans g.out, hl⟩
theorem PsS.put1 {w W W2 : World} {R M S : Nat} {m p h : ByteArray} (g : PsS w W R M S m p h 1) (hm : MapIs W2 Tryd.prog 9 S (seenL 2)) (hg : W.grownBy W2 (some S)) : PsS w (W2.setCell ⟨R, 1, none⟩ (.string p)) R M S m p h 2 := by
  have hz := g.sz
  have hl := g.lt
  have bR : W2.heap[R]? = W.heap[R]? := hg.block R (by omega) fun e => by have := Option.some.inj e; omega
  have ce : ∀ i, W2.cell? ⟨R, i, none⟩ = W.cell? ⟨R, i, none⟩ := fun i => World.cell?_of_block (a := ⟨R, i, none⟩) bR
  have fe : ∀ i, W2.frozen? ⟨R, i, none⟩ = W.frozen? ⟨R, i, none⟩ := fun i => World.frozen?_of_block (a := ⟨R, i, none⟩) bR
  have co : ∀ i, i ≠ 1 → (W2.setCell ⟨R, 1, none⟩ (.string p)).cell? ⟨R, i, none⟩ = W.cell? ⟨R, i, none⟩ := fun i hi => (World.cell?_setCell_other _ _ _ _ (fun e => hi (by simpa using (congrArg Addr.off e).symm))).trans (ce i)
  refine ⟨(g.tom.kept hg fun e => by have := Option.some.inj e; omega).setCell _ _ (by simp only; omega), hm.setCell _ _ (by simp only; omega), by obtain ⟨v, hv, h'⟩ := g.c0; exact ⟨v, (co 0 (by decide)).trans hv, fun hj => h' (by omega)⟩, by obtain ⟨v, hv, -⟩ := g.c1; exact ⟨_, World.cell?_setCell_same _ _ _ ((ce 1).trans hv), fun _ => rfl⟩, by obtain ⟨v, hv, h'⟩ := g.c2; exact ⟨v, (co 2 (by decide)).trans hv, fun hj => h' (by omega)⟩, fun i => by simp; exact (fe i).trans (g.fr i), fun i hi => (co i (by omega)).trans (g.old i hi), fun k hk hne => (Below.heap_setCell _ _ _ _ hne).trans ((hg.block k (by omega) fun e => by have := Option.some.inj e; omega).trans (g.blk k hk hne)), by have := hg.size; simp; omega, hg.os.trans g.os, hg.tape.trans g.tape, hg.output.trans g.out, hl⟩
theorem PsS.put2 {w W W2 : World} {R M S : Nat} {m p h : ByteArray} (g : PsS w W R M S m p h 2) (hm : MapIs W2 Tryd.prog 9 S (seenL 3)) (hg : W.grownBy W2 (some S)) : PsS w (W2.setCell ⟨R, 2, none⟩ (.string h)) R M S m p h 3 := by
  have hz := g.sz
  have hl := g.lt
  have bR : W2.heap[R]? = W.heap[R]? := hg.block R (by omega) fun e => by have := Option.some.inj e; omega
  have ce : ∀ i, W2.cell? ⟨R, i, none⟩ = W.cell? ⟨R, i, none⟩ := fun i => World.cell?_of_block (a := ⟨R, i, none⟩) bR
  have fe : ∀ i, W2.frozen? ⟨R, i, none⟩ = W.frozen? ⟨R, i, none⟩ := fun i => World.frozen?_of_block (a := ⟨R, i, none⟩) bR
  have co : ∀ i, i ≠ 2 → (W2.setCell ⟨R, 2, none⟩ (.string h)).cell? ⟨R, i, none⟩ = W.cell? ⟨R, i, none⟩ := fun i hi => (World.cell?_setCell_other _ _ _ _ (fun e => hi (by simpa using (congrArg Addr.off e).symm))).trans (ce i)
  refine ⟨(g.tom.kept hg fun e => by have := Option.some.inj e; omega).setCell _ _ (by simp only; omega), hm.setCell _ _ (by simp only; omega), by obtain ⟨v, hv, h'⟩ := g.c0; exact ⟨v, (co 0 (by decide)).trans hv, fun hj => h' (by omega)⟩, by obtain ⟨v, hv, h'⟩ := g.c1; exact ⟨v, (co 1 (by decide)).trans hv, fun hj => h' (by omega)⟩, by obtain ⟨v, hv, -⟩ := g.c2; exact ⟨_, World.cell?_setCell_same _ _ _ ((ce 2).trans hv), fun _ => rfl⟩, fun i => by simp; exact (fe i).trans (g.fr i), fun i hi => (co i (by omega)).trans (g.old i hi), fun k hk hne => (Below.heap_setCell _ _ _ _ hne).trans ((hg.block k (by omega) fun e => by have := Option.some.inj e; omega).trans (g.blk k hk hne)), by have := hg.size; simp; omega, hg.os.trans g.os, hg.tape.trans g.tape, hg.output.trans g.out, hl⟩
set_option maxRecDepth 100000 in
set_option maxHeartbeats 40000000 in
theorem pseudo_ok (m p h : ByteArray) (rest : List Fld) (v : Value) (R M : Nat) (w : World) (hl : At encF w v ((mN, m) :: (pN, p) :: (hN, h) :: rest)) (hc : ∀ f ∈ rest, colonB f.1 = false) (hlen : rest.length < 1000000000) (hm : MapIs w Tryd.prog 9 M (toL R))
    (hR : R < w.heap.size) (hMR : M ≠ R) (h0 : ∃ v, w.cell? ⟨R, 0, none⟩ = some v) (h1 : ∃ v, w.cell? ⟨R, 1, none⟩ = some v) (h2 : ∃ v, w.cell? ⟨R, 2, none⟩ = some v) (hf : ∀ i, w.frozen? ⟨R, i, none⟩ = false) (hbR : v.ownBlock ≠ some R) :
    Calls Tryd.prog 14 #[v, .map (some M)] w fun e w' => ∃ a n c S, e = .returned (.tuple #[.slice a n c, .nilIface]) ∧ RowsK.Own encF w' w.heap.size 33 (.slice a n c) rest ∧ PsS w w' R M S m p h 3 := by
  obtain ⟨L, hL⟩ : ∃ L : List Fld, (mN, m) :: (pN, p) :: (hN, h) :: rest = L := ⟨_, rfl⟩
  have hLn : L.length = rest.length + 3 := by rw [← hL]; rfl
  rw [hL] at hl
  have hHP : Hid (∀ (s : ByteArray) w, Calls Tryd.prog 21 #[.string s, .string ⟨#[58]⟩] w fun e w' => e = .returned (.bool (colonB s)) ∧ w' = w) := fun s w => Tryd.strings_HasPrefix s ⟨#[58]⟩ w
  have HAT := Lib.hid hl
  obtain ⟨a, cap, rfl, hcap, hcap2, -, hel⟩ := hl
  have HEL := Lib.hid hel
  have HBR : Hid (∀ b off, a = some ⟨b, off, none⟩ → b ≠ R) := fun b off e e2 => hbR (by rw [e, e2]; rfl)
  obtain ⟨n, hn⟩ : ∃ n, L.length = n := ⟨_, rfl⟩
  rw [hn] at hcap hLn ⊢
  have HN := Lib.hid hn
  have HLN := Lib.hid hLn
  have HL := Lib.hid hL
  have HC := Lib.hid hc
  have hn63 : (n : Int) ≤ 9223372036854775807 := by omega
  have HLE := Lib.hid hlen
  have hP0 : Hid (PsS w (w.alloc (.map #[] 0)) R M w.heap.size m p h 0) := by
    obtain ⟨v0, e0⟩ := h0
    obtain ⟨v1, e1⟩ := h1
    obtain ⟨v2, e2⟩ := h2
    have hb : (w.alloc (.map #[] 0)).heap[R]? = w.heap[R]? := Below.heap_alloc _ _ _ hR
    exact ⟨hm.alloc _, MapIs.made _ _ _, ⟨v0, (World.cell?_of_block (a := ⟨R, 0, none⟩) hb).trans e0, fun h => by omega⟩, ⟨v1, (World.cell?_of_block (a := ⟨R, 1, none⟩) hb).trans e1, fun h => by omega⟩, ⟨v2, (World.cell?_of_block (a := ⟨R, 2, none⟩) hb).trans e2, fun h => by omega⟩,
      fun i => World.frozen?_of_block (a := ⟨R, i, none⟩) hb, fun i _ => World.cell?_of_block (a := ⟨R, i, none⟩) hb, fun k hk _ => Below.heap_alloc _ _ _ hk, by simp, rfl, rfl, rfl, hm.lt, hR, Nat.le_refl _, hMR⟩
  have HF := Lib.hid hf
  clear hbR hel hn hLn hL hc hlen hm hMR h0 h1 h2 hf
  have hmm := @run_makeMap Tryd.prog
  go_enter Tryd.func14, Tryd.ntmps14
  go_wp2_with fail
  go_loopw [4, 14] (fun v4 iv wr => ∃ (i q : Nat) (a2 : Option Addr) (c2 : Nat), iv = .int .i64 i ∧ i ≤ n ∧ v4 = .slice a2 q c2 ∧ Hid (q = (rest.take (i - 3)).length ∧ RowsK.Own encF wr (w.heap.size + 1) 33 (.slice a2 q c2) (rest.take (i - 3)) ∧ PsS w wr R M w.heap.size m p h (min i 3))) (fun _ iv _ => n - (intOf iv).toNat)
  case atStart => exact ⟨0, 0, none, 0, rfl, by omega, rfl, Lib.hid ⟨by simp, by simpa using RowsK.Own.nil encF _ _ _, hP0.out⟩⟩
  case round =>
    obtain ⟨i, q, a2, c2, rfl, hi, rfl, HR⟩ := hrel
    obtain ⟨wo, hwo⟩ : ∃ wo : World, wo = wr := ⟨_, rfl⟩
    subst hwo
    by_cases hlt : i < n
    · obtain ⟨b, off, rfl, hb, hcc⟩ := HEL.out i (by rw [HN.out]; exact hlt)
      have hPS := HR.out.2.2
      have hzo := hPS.sz
      have hi0 : (0 : Int) ≤ (i : Int) := by omega
      have hi1 : (i : Int) < (n : Int) := by omega
      clear hzo
      rcases Nat.lt_or_ge i 3 with hi3 | hi3
      · have hel : L[i]? = [(mN, m), (pN, p), (hN, h)][i]? := by
          rw [← HL.out]
          rcases i with _ | _ | _ | i
          · rfl
          · rfl
          · rfl
          · omega
        rcases i with _ | _ | _ | i
        · have hxe : L[0]'(by rw [HN.out]; exact hlt) = (mN, m) := by have h := hel; rw [List.getElem?_eq_getElem (by rw [HN.out]; exact hlt)] at h; exact Option.some.inj h
          have hbo : b < wo.heap.size := by have := hPS.sz; omega
          have hne : b ≠ R := HBR.out b off rfl
          have cc0 : wo.cell? ⟨b, off, none⟩ = some (.string ⟨#[58, 109, 101, 116, 104, 111, 100]⟩) := by
            have h := hcc 0 (by decide)
            rw [hxe] at h
            exact (World.cell?_of_block (a := ⟨b, off + (0 * 2 + 0), none⟩) (hPS.blk b hb hne)).trans h
          have cc1 : wo.cell? ⟨b, off + 1, none⟩ = some (.string m) := by
            have h := hcc 1 (by decide)
            rw [hxe] at h
            exact (World.cell?_of_block (a := ⟨b, off + (0 * 2 + 1), none⟩) (hPS.blk b hb hne)).trans h
          obtain ⟨W1, hW1⟩ : ∃ W1, wo.alloc (.cells #[.string ⟨#[58, 109, 101, 116, 104, 111, 100]⟩, .string m] 33) = W1 := ⟨_, rfl⟩
          have hP1 : PsS w W1 R M w.heap.size m p h 0 := by rw [← hW1]; exact (show PsS w wo R M w.heap.size m p h 0 from hPS).step ((Below.refl _ _).alloc (Nat.le_refl _) _)
          have k0 : W1.cell? ⟨wo.heap.size, 0, none⟩ = some (.string ⟨#[58, 109, 101, 116, 104, 111, 100]⟩) := by rw [← hW1]; simp
          have k1 : W1.cell? ⟨wo.heap.size, 1, none⟩ = some (.string m) := by rw [← hW1]; simp
          have hl1 : (Instr.lookup 49 (.map (some M)) (.string ⟨#[58, 109, 101, 116, 104, 111, 100]⟩) true).run Tryd.prog W1 = .ok (.tuple #[.pointer (some ⟨R, 0, none⟩), .bool true]) W1 := run_look true 49 9 48 keyedF Tryd.underlying49 (.pointer none) (by kernel_rfl) M _ hP1.tom _ _ (keyF mN (by decide))
          have hl2 : (Instr.lookup 65 (.map (some w.heap.size)) (.string ⟨#[58, 109, 101, 116, 104, 111, 100]⟩) false).run Tryd.prog W1 = .ok (.bool false) W1 := run_look false 65 9 4 keyedF Tryd.underlying65 (.bool false) (by kernel_rfl) w.heap.size _ hP1.seen _ _ (keyF mN (by decide))
          obtain ⟨W2, hpu, hm2, hg2⟩ := run_put 65 9 4 keyedF Tryd.underlying65 w.heap.size _ hP1.seen (by decide) (.string ⟨#[58, 109, 101, 116, 104, 111, 100]⟩) (.bool true) _ (keyF mN (by decide)) trivial
          have hP2 := PsS.put0 hP1 hm2 hg2
          have hso := hPS.seen.lt
          have k12 : W2.cell? ⟨wo.heap.size, 1, none⟩ = some (.string m) := (World.cell?_of_block (a := ⟨wo.heap.size, 1, none⟩) (hg2.block wo.heap.size (by rw [← hW1]; simp) fun e => by have := Option.some.inj e; omega)).trans k1
          obtain ⟨oj, hoj, -⟩ := hP1.c0
          have bR : W2.heap[R]? = W1.heap[R]? := hg2.block R (by have h1 := hP1.sz; have h2 := hP1.lt.2.1; omega) fun e => by have h1 := Option.some.inj e; have h2 := hP1.lt.2.1; omega
          have kR : W2.cell? ⟨R, 0, none⟩ = some oj := (World.cell?_of_block (a := ⟨R, 0, none⟩) bR).trans hoj
          have fR : W2.frozen? ⟨R, 0, none⟩ = false := (World.frozen?_of_block (a := ⟨R, 0, none⟩) bR).trans ((hP1.fr 0).trans (HF.out 0))
          have hpre : Hid (∀ W, Calls Tryd.prog 21 #[.string ⟨#[58, 109, 101, 116, 104, 111, 100]⟩, .string ⟨#[58]⟩] W fun e w' => e = .returned (.bool true) ∧ w' = W) := fun W => hHP.out mN W
          obtain rfl : q = 0 := by have h := HR.out.1; simpa using h
          have HOZ : Hid (RowsK.Own encF (W2.setCell ⟨R, 0, none⟩ (.string m)) (w.heap.size + 1) 33 (.slice a2 0 c2) []) := by
            have hO : RowsK.Own encF wo (w.heap.size + 1) 33 (.slice a2 0 c2) [] := by have h := HR.out.2.1; simpa using h
            have hO1 : RowsK.Own encF W1 (w.heap.size + 1) 33 (.slice a2 0 c2) [] := by rw [← hW1]; exact hO.alloc _
            exact (hO1.of_block fun k hk => hg2.block k (hO1.lt k hk).2 fun e => by have h1 := Option.some.inj e; have h2 := (hO1.lt k hk).1; omega).setCell _ _ fun e => by have h1 := (hO1.lt _ e).1; simp only at h1; omega
          have HP2 := Lib.hid hP2
          have HW1 := Lib.hid hW1
          clear hP2 hP1 hPS bR hoj hxe hel hcc hm2 hg2 hne
          go_upto_region 5 with fail
          (try rw [hW1])
          clear hW1 cc0 cc1
          go_wp2_with (first
            | (go_at_call 21; (with_reducible refine (hpre.out _).mono ?_); rintro e w9 ⟨rfl, rfl⟩)
            | fail)
          go_roundw
          case rel => exact ⟨1, 0, a2, c2, by simp, by omega, rfl, Lib.hid ⟨by simp, HOZ.out, HP2.out⟩⟩
          case measure => simp [intOf]; omega
        · have hxe : L[1]'(by rw [HN.out]; exact hlt) = (pN, p) := by have h := hel; rw [List.getElem?_eq_getElem (by rw [HN.out]; exact hlt)] at h; exact Option.some.inj h
          have hbo : b < wo.heap.size := by have := hPS.sz; omega
          have hne : b ≠ R := HBR.out b off rfl
          have cc0 : wo.cell? ⟨b, off + 2, none⟩ = some (.string ⟨#[58, 112, 97, 116, 104]⟩) := by
            have h := hcc 0 (by decide)
            rw [hxe] at h
            exact (World.cell?_of_block (a := ⟨b, off + (1 * 2 + 0), none⟩) (hPS.blk b hb hne)).trans h
          have cc1 : wo.cell? ⟨b, off + 2 + 1, none⟩ = some (.string p) := by
            have h := hcc 1 (by decide)
            rw [hxe] at h
            exact (World.cell?_of_block (a := ⟨b, off + (1 * 2 + 1), none⟩) (hPS.blk b hb hne)).trans h
          obtain ⟨W1, hW1⟩ : ∃ W1, wo.alloc (.cells #[.string ⟨#[58, 112, 97, 116, 104]⟩, .string p] 33) = W1 := ⟨_, rfl⟩
          have hP1 : PsS w W1 R M w.heap.size m p h 1 := by rw [← hW1]; exact (show PsS w wo R M w.heap.size m p h 1 from hPS).step ((Below.refl _ _).alloc (Nat.le_refl _) _)
          have k0 : W1.cell? ⟨wo.heap.size, 0, none⟩ = some (.string ⟨#[58, 112, 97, 116, 104]⟩) := by rw [← hW1]; simp
          have k1 : W1.cell? ⟨wo.heap.size, 1, none⟩ = some (.string p) := by rw [← hW1]; simp
          have hl1 : (Instr.lookup 49 (.map (some M)) (.string ⟨#[58, 112, 97, 116, 104]⟩) true).run Tryd.prog W1 = .ok (.tuple #[.pointer (some ⟨R, 1, none⟩), .bool true]) W1 := run_look true 49 9 48 keyedF Tryd.underlying49 (.pointer none) (by kernel_rfl) M _ hP1.tom _ _ (keyF pN (by decide))
          have hl2 : (Instr.lookup 65 (.map (some w.heap.size)) (.string ⟨#[58, 112, 97, 116, 104]⟩) false).run Tryd.prog W1 = .ok (.bool false) W1 := run_look false 65 9 4 keyedF Tryd.underlying65 (.bool false) (by kernel_rfl) w.heap.size _ hP1.seen _ _ (keyF pN (by decide))
          obtain ⟨W2, hpu, hm2, hg2⟩ := run_put 65 9 4 keyedF Tryd.underlying65 w.heap.size _ hP1.seen (by decide) (.string ⟨#[58, 112, 97, 116, 104]⟩) (.bool true) _ (keyF pN (by decide)) trivial
          have hP2 := PsS.put1 hP1 hm2 hg2
          have hso := hPS.seen.lt
          have k12 : W2.cell? ⟨wo.heap.size, 1, none⟩ = some (.string p) := (World.cell?_of_block (a := ⟨wo.heap.size, 1, none⟩) (hg2.block wo.heap.size (by rw [← hW1]; simp) fun e => by have := Option.some.inj e; omega)).trans k1
          obtain ⟨oj, hoj, -⟩ := hP1.c1
          have bR : W2.heap[R]? = W1.heap[R]? := hg2.block R (by have h1 := hP1.sz; have h2 := hP1.lt.2.1; omega) fun e => by have h1 := Option.some.inj e; have h2 := hP1.lt.2.1; omega
          have kR : W2.cell? ⟨R, 1, none⟩ = some oj := (World.cell?_of_block (a := ⟨R, 1, none⟩) bR).trans hoj
          have fR : W2.frozen? ⟨R, 1, none⟩ = false := (World.frozen?_of_block (a := ⟨R, 1, none⟩) bR).trans ((hP1.fr 1).trans (HF.out 1))
          have hpre : Hid (∀ W, Calls Tryd.prog 21 #[.string ⟨#[58, 112, 97, 116, 104]⟩, .string ⟨#[58]⟩] W fun e w' => e = .returned (.bool true) ∧ w' = W) := fun W => hHP.out pN W
          obtain rfl : q = 0 := by have h := HR.out.1; simpa using h
          have HOZ : Hid (RowsK.Own encF (W2.setCell ⟨R, 1, none⟩ (.string p)) (w.heap.size + 1) 33 (.slice a2 0 c2) []) := by
            have hO : RowsK.Own encF wo (w.heap.size + 1) 33 (.slice a2 0 c2) [] := by have h := HR.out.2.1; simpa using h
            have hO1 : RowsK.Own encF W1 (w.heap.size + 1) 33 (.slice a2 0 c2) [] := by rw [← hW1]; exact hO.alloc _
            exact (hO1.of_block fun k hk => hg2.block k (hO1.lt k hk).2 fun e => by have h1 := Option.some.inj e; have h2 := (hO1.lt k hk).1; omega).setCell _ _ fun e => by have h1 := (hO1.lt _ e).1; simp only at h1; omega
          have HP2 := Lib.hid hP2
          have HW1 := Lib.hid hW1
          clear hP2 hP1 hPS bR hoj hxe hel hcc hm2 hg2 hne
          go_upto_region 5 with fail
          (try rw [hW1])
          clear hW1 cc0 cc1
          go_wp2_with (first
            | (go_at_call 21; (with_reducible refine (hpre.out _).mono ?_); rintro e w9 ⟨rfl, rfl⟩)
            | fail)
          go_roundw
          case rel => exact ⟨2, 0, a2, c2, by simp, by omega, rfl, Lib.hid ⟨by simp, HOZ.out, HP2.out⟩⟩
          case measure => simp [intOf]; omega
        · have hxe : L[2]'(by rw [HN.out]; exact hlt) = (hN, h) := by have h := hel; rw [List.getElem?_eq_getElem (by rw [HN.out]; exact hlt)] at h; exact Option.some.inj h
          have hbo : b < wo.heap.size := by have := hPS.sz; omega
          have hne : b ≠ R := HBR.out b off rfl
          have cc0 : wo.cell? ⟨b, off + 4, none⟩ = some (.string ⟨#[58, 104, 111, 115, 116]⟩) := by
            have h := hcc 0 (by decide)
            rw [hxe] at h
            exact (World.cell?_of_block (a := ⟨b, off + (2 * 2 + 0), none⟩) (hPS.blk b hb hne)).trans h
          have cc1 : wo.cell? ⟨b, off + 4 + 1, none⟩ = some (.string h) := by
            have h := hcc 1 (by decide)
            rw [hxe] at h
            exact (World.cell?_of_block (a := ⟨b, off + (2 * 2 + 1), none⟩) (hPS.blk b hb hne)).trans h
          obtain ⟨W1, hW1⟩ : ∃ W1, wo.alloc (.cells #[.string ⟨#[58, 104, 111, 115, 116]⟩, .string h] 33) = W1 := ⟨_, rfl⟩
          have hP1 : PsS w W1 R M w.heap.size m p h 2 := by rw [← hW1]; exact (show PsS w wo R M w.heap.size m p h 2 from hPS).step ((Below.refl _ _).alloc (Nat.le_refl _) _)
          have k0 : W1.cell? ⟨wo.heap.size, 0, none⟩ = some (.string ⟨#[58, 104, 111, 115, 116]⟩) := by rw [← hW1]; simp
          have k1 : W1.cell? ⟨wo.heap.size, 1, none⟩ = some (.string h) := by rw [← hW1]; simp
          have hl1 : (Instr.lookup 49 (.map (some M)) (.string ⟨#[58, 104, 111, 115, 116]⟩) true).run Tryd.prog W1 = .ok (.tuple #[.pointer (some ⟨R, 2, none⟩), .bool true]) W1 := run_look true 49 9 48 keyedF Tryd.underlying49 (.pointer none) (by kernel_rfl) M _ hP1.tom _ _ (keyF hN (by decide))
          have hl2 : (Instr.lookup 65 (.map (some w.heap.size)) (.string ⟨#[58, 104, 111, 115, 116]⟩) false).run Tryd.prog W1 = .ok (.bool false) W1 := run_look false 65 9 4 keyedF Tryd.underlying65 (.bool false) (by kernel_rfl) w.heap.size _ hP1.seen _ _ (keyF hN (by decide))
          obtain ⟨W2, hpu, hm2, hg2⟩ := run_put 65 9 4 keyedF Tryd.underlying65 w.heap.size _ hP1.seen (by decide) (.string ⟨#[58, 104, 111, 115, 116]⟩) (.bool true) _ (keyF hN (by decide)) trivial
          have hP2 := PsS.put2 hP1 hm2 hg2
          have hso := hPS.seen.lt
          have k12 : W2.cell? ⟨wo.heap.size, 1, none⟩ = some (.string h) := (World.cell?_of_block (a := ⟨wo.heap.size, 1, none⟩) (hg2.block wo.heap.size (by rw [← hW1]; simp) fun e => by have := Option.some.inj e; omega)).trans k1
          obtain ⟨oj, hoj, -⟩ := hP1.c2
          have bR : W2.heap[R]? = W1.heap[R]? := hg2.block R (by have h1 := hP1.sz; have h2 := hP1.lt.2.1; omega) fun e => by have h1 := Option.some.inj e; have h2 := hP1.lt.2.1; omega
          have kR : W2.cell? ⟨R, 2, none⟩ = some oj := (World.cell?_of_block (a := ⟨R, 2, none⟩) bR).trans hoj
          have fR : W2.frozen? ⟨R, 2, none⟩ = false := (World.frozen?_of_block (a := ⟨R, 2, none⟩) bR).trans ((hP1.fr 2).trans (HF.out 2))
          have hpre : Hid (∀ W, Calls Tryd.prog 21 #[.string ⟨#[58, 104, 111, 115, 116]⟩, .string ⟨#[58]⟩] W fun e w' => e = .returned (.bool true) ∧ w' = W) := fun W => hHP.out hN W
          obtain rfl : q = 0 := by have h := HR.out.1; simpa using h
          have HOZ : Hid (RowsK.Own encF (W2.setCell ⟨R, 2, none⟩ (.string h)) (w.heap.size + 1) 33 (.slice a2 0 c2) []) := by
            have hO : RowsK.Own encF wo (w.heap.size + 1) 33 (.slice a2 0 c2) [] := by have h := HR.out.2.1; simpa using h
            have hO1 : RowsK.Own encF W1 (w.heap.size + 1) 33 (.slice a2 0 c2) [] := by rw [← hW1]; exact hO.alloc _
            exact (hO1.of_block fun k hk => hg2.block k (hO1.lt k hk).2 fun e => by have h1 := Option.some.inj e; have h2 := (hO1.lt k hk).1; omega).setCell _ _ fun e => by have h1 := (hO1.lt _ e).1; simp only at h1; omega
          have HP2 := Lib.hid hP2
          have HW1 := Lib.hid hW1
          clear hP2 hP1 hPS bR hoj hxe hel hcc hm2 hg2 hne
          go_upto_region 5 with fail
          (try rw [hW1])
          clear hW1 cc0 cc1
          go_wp2_with (first
            | (go_at_call 21; (with_reducible refine (hpre.out _).mono ?_); rintro e w9 ⟨rfl, rfl⟩)
            | fail)
          go_roundw
          case rel => exact ⟨3, 0, a2, c2, by simp, by omega, rfl, Lib.hid ⟨by simp, HOZ.out, HP2.out⟩⟩
          case measure => simp [intOf]; omega
        · omega
      · obtain ⟨r, rfl⟩ : ∃ r, i = r + 3 := ⟨i - 3, by omega⟩
        have hr : r < rest.length := by have := HLN.out; omega
        have hxe : L[r + 3]'(by rw [HN.out]; exact hlt) = rest[r] := by
          have h : L[r + 3]? = rest[r]? := by rw [← HL.out]; rfl
          rw [List.getElem?_eq_getElem (by rw [HN.out]; exact hlt), List.getElem?_eq_getElem hr] at h
          exact Option.some.inj h
        have hcol := HC.out rest[r] (List.getElem_mem hr)
        have hst : rest.take (r + 1) = rest.take r ++ [rest[r]] := List.take_succ_eq_append_getElem hr
        obtain ⟨xa, xb, hx⟩ : ∃ xa xb, rest[r] = (xa, xb) := ⟨_, _, rfl⟩
        rw [hx] at hxe hcol hst
        simp only at hcol
        have hne : b ≠ R := HBR.out b off rfl
        have cc0 : wo.cell? ⟨b, off + (r + 3) * 2, none⟩ = some (.string xa) := by
          have h := hcc 0 (by decide)
          rw [hxe] at h
          exact (World.cell?_of_block (a := ⟨b, off + ((r + 3) * 2 + 0), none⟩) (hPS.blk b hb hne)).trans h
        have cc1 : wo.cell? ⟨b, off + (r + 3) * 2 + 1, none⟩ = some (.string xb) := by
          have h := hcc 1 (by decide)
          rw [hxe] at h
          exact (World.cell?_of_block (a := ⟨b, off + ((r + 3) * 2 + 1), none⟩) (hPS.blk b hb hne)).trans h
        have hpre : Hid (∀ W, Calls Tryd.prog 21 #[.string xa, .string ⟨#[58]⟩] W fun e w' => e = .returned (.bool false) ∧ w' = W) := fun W => by have h := hHP.out xa W; rw [hcol] at h; exact h
        have hq : q = (rest.take r).length := by have h := HR.out.1; simpa using h
        have hO : RowsK.Own encF wo (w.heap.size + 1) 33 (.slice a2 q c2) (rest.take r) := by have h := HR.out.2.1; simpa using h
        have HQ := Lib.hid hq
        have HO := Lib.hid hO
        have HST := Lib.hid hst
        have HPS : Hid (PsS w wo R M w.heap.size m p h 3) := by have h := hPS; rw [show min (r + 3) 3 = 3 from by omega] at h; exact h
        have hso := hPS.seen.lt
        have HOW : Hid (RowsK.Own encF ((wo.alloc (.cells #[.string xa, .string xb] 33)).alloc (.cells #[.string xa, .string xb] 33)) (w.heap.size + 1) 33 (.slice a2 q c2) (rest.take r)) := (hO.alloc _).alloc _
        have HAT2 : Hid (At encF ((wo.alloc (.cells #[.string xa, .string xb] 33)).alloc (.cells #[.string xa, .string xb] 33)) (.slice (some ⟨wo.heap.size + 1, 0, none⟩) 1 1) [(xa, xb)]) := by
          have h := (RowsK.Own.lit (E := encF) (b := 0) (e := 33) (wo.alloc (.cells #[.string xa, .string xb] 33)) #[.string xa, .string xb] [(xa, xb)] (Nat.zero_le _) (by simp) rfl).at_
          rw [World.size_alloc] at h
          exact h
        clear hq hO hst hPS hcol hxe hx hcc hne
        go_wp2_with (first
          | (go_at_call 21; (with_reducible refine (hpre.out _).mono ?_); rintro e w9 ⟨rfl, rfl⟩)
          | (at_builtin; refine RowsK.wpList_append elemF rfl _ _ rfl (w.heap.size + 1) _ rfl HOW.out _ [(xa, xb)] rfl HAT2.out (by have h1 := HQ.out; have h2 := HLE.out; simp at h1 ⊢; omega) (by simp; omega) ?_; intro v4 w4 hO4 hB4 hg4 hat4; obtain ⟨a4, c4, e4, -⟩ := hO4.slice; rw [show (rest.take r ++ [(xa, xb)]).length = q + 1 from (by have := HQ.out; simp at this ⊢; omega)] at e4; subst e4; have HO4 := Lib.hid hO4; have HG4 := Lib.hid hg4; clear hO4 hB4 hg4 hat4)
          | fail)
        go_roundw
        case rel =>
          refine ⟨r + 3 + 1, q + 1, a4, c4, by go_num, by omega, rfl, Lib.hid ⟨?_, ?_, ?_⟩⟩
          · rw [show r + 3 + 1 - 3 = r + 1 from by omega, HST.out]; have := HQ.out; simp at this ⊢; omega
          · rw [show r + 3 + 1 - 3 = r + 1 from by omega, HST.out]; exact HO4.out
          · rw [show min (r + 3 + 1) 3 = 3 from by omega]
            exact (HPS.out.step (((Below.refl _ _).alloc (Nat.le_refl _) (.cells #[.string xa, .string xb] 33)).alloc (by simp) (.cells #[.string xa, .string xb] 33))).grown HG4.out fun k hk => by have := (HOW.out.lt k hk).1; omega
        case measure => simp [intOf]; omega
    · obtain rfl : i = n := by omega
      have hPS := HR.out.2.2
      have hl1 : ∀ ty, (Builtin.len_ #[65] ty #[.map (some w.heap.size)]).run Tryd.prog wo = .ok (.int .i64 3) wo := fun ty => by
        have h := run_len 65 9 4 Tryd.underlying65 w.heap.size _ hPS.seen ty
        rw [show min i 3 = 3 from by have := HLN.out; omega] at h
        exact h
      have hl2 : ∀ ty, (Builtin.len_ #[49] ty #[.map (some M)]).run Tryd.prog wo = .ok (.int .i64 3) wo := fun ty => run_len 49 9 48 Tryd.underlying49 M _ hPS.tom ty
      clear hPS
      go_wp2_with fail
      refine bodyPost_ret (results_tmp2 rfl _ _ _) rfl ⟨_, _, _, w.heap.size, rfl, ?_, ?_⟩
      · have h := HR.out.2.1
        rw [List.take_of_length_le (by have := HLN.out; omega)] at h
        exact RowsK.Own.mono h (Nat.le_succ _)
      · have h := HR.out.2.2
        rwa [show min i 3 = 3 from by have := HLN.out; omega] at h
end Go.Proofs.YtooplackonnemaaDoor.FieldsC
