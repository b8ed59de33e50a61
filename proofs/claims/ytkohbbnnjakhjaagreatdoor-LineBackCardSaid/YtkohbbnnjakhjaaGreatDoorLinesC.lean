/-
  Fields as lines: package line's lines and the reference's; decimal digits.
  Conditions: at most 40 fields, of at most 400 bytes each.
-/
import Derived.Test.YtkohbbnnjakhjaaGreatDoorLineCheck
import Derived.Test.YtkohbbnnjakhjaaGreatDoorBuilder
import Derived.Deep.QuietTactic
import Derived.BigQuiet
import Derived.Lib.ItoaNum
import Derived.Lib.LaidTab
import Derived.WalkSmall
namespace Go.Proofs.YtkohbbnnjakhjaaGreatDoor.LineM
open Go.RowKit Go.Shelf RowsK LineC FieldRows BA
set_option linter.unusedVariables false
set_option linter.unusedSimpArgs false

theorem ba_cat (a : List UInt8) (b : ByteArray) : (⟨a.toArray⟩ : ByteArray) ++ b = ⟨(a ++ b.data.toList).toArray⟩ := by
  apply ByteArray.ext
  simp
theorem ba_list (a : ByteArray) : a = ⟨a.data.toList.toArray⟩ := by
  apply ByteArray.ext
  simp
theorem size_mk (l : List UInt8) : (⟨l.toArray⟩ : ByteArray).size = l.length := by simp [ByteArray.size]
/-- A field as a line. -/
def lineF (f : Fld) : List UInt8 := f.1.data.toList ++ [58, 32] ++ f.2.data.toList ++ [13, 10]
def linesL (l : List Fld) : List UInt8 := l.flatMap lineF
def linesS (l : List Fld) : ByteArray := ⟨(linesL l).toArray⟩
def Small (l : List Fld) : Prop := l.length ≤ 40 ∧ ∀ f ∈ l, f.1.size ≤ 400 ∧ f.2.size ≤ 400
theorem plain_len {l : List UInt8} (h : plainL l = true) : l.length ≤ 400 := by
  unfold plainL at h
  simp only [Bool.and_eq_true, decide_eq_true_eq] at h
  exact h.1.1.1
theorem word_len {l : List UInt8} (h : wordL l = true) : l.length ≤ 400 := by
  unfold wordL at h
  simp only [Bool.and_eq_true] at h
  exact plain_len h.1.2
theorem fields_small {l : List Fld} (h : fieldsE l = 0) : ∀ f ∈ l, nameL f.1.data.toList = true ∧ plainL f.2.data.toList = true ∧ ownB f.1 = false := by
  intro f hf
  unfold fieldsE at h
  induction l with
  | nil => cases hf
  | cons a l ih =>
    unfold firstE at h
    split at h
    · rename_i hne; exact absurd h hne
    · rename_i h0
      rcases List.mem_cons.1 hf with rfl | hf
      · have h0 : fieldE1 f = 0 := by simpa using h0
        unfold fieldE1 at h0
        split at h0
        · cases h0
        · rename_i h1
          split at h0
          · cases h0
          · rename_i h2
            simp only [Bool.or_eq_true, Bool.not_eq_true', not_or, Bool.not_eq_false] at h1
            exact ⟨h1.1, h1.2, by simpa using h2⟩
      · exact ih h hf
theorem small_of {l : List Fld} (h0 : fieldsE l = 0) (hl : l.length ≤ 40) : Small l := ⟨hl, fun f hf => by
  obtain ⟨h1, h2, _⟩ := fields_small h0 f hf
  unfold nameL at h1
  simp only [Bool.and_eq_true] at h1
  exact ⟨by rw [size_list]; exact (tok_len h1.1).1, by rw [size_list]; exact plain_len h2⟩⟩
theorem linesL_snoc (l : List Fld) (i : Nat) (hi : i < l.length) : linesL (l.take (i + 1)) = linesL (l.take i) ++ lineF l[i] := by
  unfold linesL
  rw [List.take_succ_eq_append_getElem hi, List.flatMap_append]
  simp
theorem lineF_len {f : Fld} (h : f.1.size ≤ 400 ∧ f.2.size ≤ 400) : (lineF f).length ≤ 804 := by
  obtain ⟨h1, h2⟩ := h
  rw [size_list] at h1 h2
  unfold lineF
  simp only [List.length_append, List.length_cons, List.length_nil]; omega
theorem linesL_len {l : List Fld} (h : ∀ f ∈ l, f.1.size ≤ 400 ∧ f.2.size ≤ 400) : (linesL l).length ≤ 804 * l.length := by
  induction l with
  | nil => simp [linesL]
  | cons a l ih =>
    have h1 := lineF_len (h a (by simp))
    have h2 := ih (fun r hr => h r (by simp [hr]))
    unfold linesL at h2 ⊢
    rw [List.flatMap_cons, List.length_append, List.length_cons]
    omega
theorem linesS_size {l : List Fld} (h : Small l) : (linesS l).size ≤ 32160 := by
  unfold linesS
  rw [size_mk]
  have := linesL_len h.2
  have := h.1
  omega
theorem line_cat (f : Fld) (p : List UInt8) : (⟨p.toArray⟩ : ByteArray) ++ f.1 ++ ⟨#[58, 32]⟩ ++ f.2 ++ ⟨#[13, 10]⟩ = ⟨(p ++ lineF f).toArray⟩ := by
  unfold lineF
  simp only [ba_cat, List.append_assoc]
theorem line_one (f : Fld) : f.1 ++ ⟨#[58, 32]⟩ ++ f.2 ++ ⟨#[13, 10]⟩ = (⟨(lineF f).toArray⟩ : ByteArray) := by
  unfold lineF
  rw [ba_list f.1, ba_cat, ba_cat, ba_cat]
theorem Fld.at_elem {w : World} {a : Option Addr} {n cap : Nat} {l : List Fld} (h : At encF w (.slice a n cap) l) (i : Nat) (hi : i < l.length) : ∃ b off, a = some ⟨b, off, none⟩ ∧ b < w.heap.size ∧
    w.cell? ⟨b, off + i * 2, none⟩ = some (.string l[i].1) ∧ w.cell? ⟨b, off + i * 2 + 1, none⟩ = some (.string l[i].2) := by
  obtain ⟨a', cap', e, _, _, _, hel⟩ := h
  simp only [Value.slice.injEq] at e
  obtain ⟨rfl, rfl, rfl⟩ := e
  obtain ⟨b, off, rfl, hb, hc⟩ := hel i hi
  have c0 : w.cell? ⟨b, off + (i * 2 + 0), none⟩ = some (.string l[i].1) := hc 0 (by decide)
  have c1 : w.cell? ⟨b, off + (i * 2 + 1), none⟩ = some (.string l[i].2) := hc 1 (by decide)
  rw [← Nat.add_assoc] at c0 c1
  exact ⟨b, off, rfl, hb, c0, c1⟩
set_option maxRecDepth 100000 in
set_option maxHeartbeats 8000000 in
theorem lines_any (v : Value) (l : List Fld) (w : World) (hl : At encF w v l) (hok : Small l) :
    Calls Tryz.prog 21 #[v] w fun e w' => e = .returned (.string (linesS l)) ∧ Below w.heap.size w w' := by
  have HL := Lib.hid hl
  obtain ⟨h20, hbad⟩ := hok
  have HBD := Lib.hid hbad
  obtain ⟨a, cap, rfl, hcap, hcap2, _, _⟩ := hl
  obtain ⟨RR, hRR⟩ : ∃ R, linesS l = R := ⟨_, rfl⟩
  rw [hRR]
  have HR := Lib.hid hRR
  have h1 : (l.length : Int) ≤ 40 := by omega
  clear hbad hRR
  have hbu := Lib.fresh_isBuilder 75 5 w
  have hBA : Below w.heap.size w (w.alloc (.cells #[.pointer none, .slice none 0 0] 75)) := (Below.refl _ _).alloc (Nat.le_refl _) _
  have HBU := Lib.hid (And.intro hbu hBA)
  clear hbu hBA
  go_enter Tryz.func21, Tryz.ntmps21
  go_wp2_with fail
  go_loopw [8] (fun iv wi => ∃ (i : Nat), iv = .int .i64 i ∧ i ≤ l.length ∧ Hid (Lib.IsBuilder 75 5 w.heap.size w.heap.size (Lib.byteCells (linesL (l.take i))) wi ∧ Below w.heap.size w wi) ∧ w.heap.size < wi.heap.size) (fun iv _ => 41 - (intOf iv).toNat)
  case atStart => exact ⟨0, rfl, by omega, HBU, by simp⟩
  case round =>
    obtain ⟨i, rfl, hi, HI, hws⟩ := hrel
    by_cases hin : i < l.length
    · obtain ⟨ab, off, rfl, hab, c0, c1⟩ := Fld.at_elem (HL.out.old HI.out.2) i hin
      have hst := linesL_snoc l i hin
      have hbr := HBD.out _ (List.getElem_mem hin)
      have hpl := linesL_len (l := l.take i) (fun r hr => HBD.out r (List.mem_of_mem_take hr))
      rw [List.length_take] at hpl
      generalize l[i] = r at *
      have hpr := lineF_len hbr
      obtain ⟨s1, s2⟩ := hbr
      have hst2 := line_one r
      have HST2 := Lib.hid hst2
      have hz1 : (Lib.byteCells (linesL (l.take i))).length + (⟨(lineF r).toArray⟩ : ByteArray).size ≤ 140737488355328 := by rw [Lib.byteCells_length, size_mk]; omega
      have hz2 : Lib.byteCells (linesL (l.take i)) ++ Lib.strCells ⟨(lineF r).toArray⟩ = Lib.byteCells (linesL (l.take (i + 1))) := by rw [hst, Lib.byteCells_append]; rfl
      have HZ := Lib.hid (And.intro hz1 hz2)
      obtain ⟨ra, rb⟩ := r
      simp only at c0 c1 HST2 s1 s2
      generalize Lib.byteCells (linesL (l.take i)) = bs at *
      generalize hbt : Lib.byteCells (linesL (l.take (i + 1))) = bt at *
      have HBT := Lib.hid hbt
      generalize (⟨(lineF (ra, rb)).toArray⟩ : ByteArray) = pr at *
      have hi0 : (0 : Int) ≤ (i : Int) := by omega
      have hi1 : (i : Int) < (l.length : Int) := by omega
      have hfr : Hid (∀ W : World, Below wr.heap.size wr W → Calls Tryz.prog 40 #[.pointer (some ⟨w.heap.size, 0, none⟩), .string pr] W fun e w' => e = .returned (.tuple #[.int .i64 pr.size, .nilIface]) ∧ (Hid (Lib.IsBuilder 75 5 w.heap.size w.heap.size bt w' ∧ Below w.heap.size w w') ∧ w.heap.size < w'.heap.size)) := (by
        intro W hW
        have hws2 := hW.size
        refine (BuilderC.write_any w.heap.size w.heap.size bs pr W (BuilderC.below_keep HI.out.1 hW) HZ.out.1 (by omega)).mono ?_
        rintro e w' ⟨rfl, hbw, hbl⟩
        rw [HZ.out.2] at hbw
        have hwl := hbl.size
        refine ⟨rfl, Lib.hid ⟨hbw, (HI.out.2.trans (hW.mono (by have := HI.out.2.size; omega))).trans hbl⟩, ?_⟩
        omega)
      have hBa : Below wr.heap.size wr (wr.alloc (.cells #[.string ra, .string rb] 69)) := (Below.refl _ _).alloc (Nat.le_refl _) _
      have HBa := Lib.hid hBa
      clear hst hst2 hpl hz1 hz2 hBa hpr HI HZ hbt
      rw [← HST2.out] at hfr
      have k1 : ¬ 9223372036854775807 < ra.size + 2 := by omega
      have k2 : ¬ 9223372036854775807 < ra.size + 2 + rb.size := by omega
      have k3 : ¬ 9223372036854775807 < ra.size + 2 + rb.size + 2 := by omega
      go_wp2_with (go_at_call 40; (with_reducible refine (hfr.out _ HBa.out).mono ?_); rintro e w2 ⟨rfl, HI2, hws2⟩)
      case roundEnd => exact ⟨⟨i + 1, rfl, by omega, (by rw [HBT.out]; exact HI2), hws2⟩, (by show 41 - ((i : Int) + 1).toNat < 41 - (i : Int).toNat; omega)⟩
    · obtain rfl : i = l.length := by omega
      have hrr : (⟨(linesL (l.take l.length)).toArray⟩ : ByteArray) = RR := by rw [← HR.out, List.take_length]; rfl
      have hstr := Tryz.Builder_String_any w.heap.size w.heap.size (linesL (l.take l.length)) wr HI.out.1 (by omega)
      rw [hrr] at hstr
      have HSTR := Lib.hid hstr
      clear hrr hstr
      go_wp2_with (go_at_call 41; (with_reducible refine HSTR.out.mono ?_); rintro e w2 ⟨rfl, hB2⟩)
      go_ret
      exact ⟨rfl, HI.out.2.trans hB2⟩
/-- Decimal digits, as text. -/
def decS (n : Nat) : ByteArray := ⟨(Lib.decDigits n).toArray⟩
def digB (k : Nat) : UInt8 := UInt8.ofNat (48 + k)
theorem dec_small {n : Nat} (h : n < 10) : Lib.decDigits n = [digB n] := by unfold Lib.decDigits digB; rw [dif_pos h]
theorem dec_big {n : Nat} (h : ¬ n < 10) : Lib.decDigits n = Lib.decDigits (n / 10) ++ [digB (n % 10)] := by rw [Lib.decDigits]; rw [dif_neg h]; rfl
theorem dec_len : ∀ k n : Nat, n < 10 ^ (k + 1) → (Lib.decDigits n).length ≤ k + 1
  | 0, n, h => by rw [dec_small (by omega)]; simp
  | k + 1, n, h => by
    by_cases h1 : n < 10
    · rw [dec_small h1]; simp
    · rw [dec_big h1, List.length_append]
      have := dec_len k (n / 10) (by rw [Nat.div_lt_iff_lt_mul (by decide)]; rw [Nat.pow_succ] at h; exact h)
      simp; omega
theorem cut10 (k : Nat) (h : k < 10) : (⟨#[48, 49, 50, 51, 52, 53, 54, 55, 56, 57]⟩ : ByteArray).extract k (k + 1) = ⟨#[digB k]⟩ := by
  have h2 : ∀ k : Fin 10, (⟨#[48, 49, 50, 51, 52, 53, 54, 55, 56, 57]⟩ : ByteArray).extract k.val (k.val + 1) = ⟨#[digB k.val]⟩ := by decide +kernel
  exact h2 ⟨k, h⟩
def Pow10 (w : World) : Prop := Lib.TabIs Tryz.prog w "internal/strconv.uint64pow10" .u64 Lib.pow10Tab
theorem itoa_any (n : Nat) (hn : n ≤ 8000) (w : World) (hp : Pow10 w) : Calls Tryz.prog 22 #[.int .i64 n] w fun e w' => e = .returned (.string (decS n)) ∧ Below w.heap.size w w' := by
  refine (Tryz.strconv_Itoa n (by omega) (by omega) w hp).mono ?_
  rintro e w' ⟨rfl, k, os, rfl⟩
  refine ⟨?_, ?_⟩
  · unfold Lib.itoa decS
    rw [if_neg (by omega)]; rfl
  · refine ⟨rfl, rfl, rfl, by simp [Go.Sort.grow, World.drewN], fun k hk => ?_⟩
    exact Array.getElem?_append_left hk
end Go.Proofs.YtkohbbnnjakhjaaGreatDoor.LineM
