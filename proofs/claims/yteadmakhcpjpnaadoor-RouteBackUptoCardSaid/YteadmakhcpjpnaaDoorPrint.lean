/-
  Routes as text: package route's Print and the reference's PrintRoutes.
  Conditions: the routes are right.
-/
import Derived.Test.YteadmakhcpjpnaaDoorRest
import Derived.Test.YteadmakhcpjpnaaDoorBuilder
import Derived.Deep.QuietTactic
import Derived.BigQuiet
namespace Go.Proofs.YteadmakhcpjpnaaDoor.RouteC
open Go.RowKit Go.Shelf RowsK LineC
set_option linter.unusedVariables false
set_option linter.unusedSimpArgs false

/-- A route as text. -/
def printR (r : RT) : List UInt8 := (if r.host.toList.isEmpty then [42] else r.host.data.toList) ++ [32] ++ r.path.data.toList ++ [32] ++ r.dest.data.toList ++ [10]
def printL (l : List RT) : List UInt8 := l.flatMap printR
def printS (l : List RT) : ByteArray := ⟨(printL l).toArray⟩
theorem printL_snoc (l : List RT) (i : Nat) (hi : i < l.length) : printL (l.take (i + 1)) = printL (l.take i) ++ printR l[i] := by
  unfold printL
  rw [List.take_succ_eq_append_getElem hi, List.flatMap_append]
  simp
theorem ba_cat (a : List UInt8) (b : ByteArray) : (⟨a.toArray⟩ : ByteArray) ++ b = ⟨(a ++ b.data.toList).toArray⟩ := by
  apply ByteArray.ext
  simp
theorem ba_list (a : ByteArray) : a = ⟨a.data.toList.toArray⟩ := by
  apply ByteArray.ext
  simp
/-- The sizes of what is right. -/
theorem right_sizes {r : RT} (h : badR r = false) : r.host.size ≤ 400 ∧ r.path.size ≤ 400 ∧ r.dest.size ≤ 400 := by
  unfold badR at h
  simp only [Bool.or_eq_false_iff, Bool.not_eq_false'] at h
  obtain ⟨⟨⟨h1, _⟩, h2⟩, h3⟩ := h
  have hw : ∀ s : ByteArray, wordL s.data.toList = true → s.size ≤ 400 := fun s h => by
    unfold wordL plainL at h
    simp only [Bool.and_eq_true, decide_eq_true_eq] at h
    rw [size_list]; exact h.1.2.1.1.1
  refine ⟨?_, hw _ h2, ?_⟩
  · rcases he : r.host.toList.isEmpty with _ | _
    · rw [he] at h1
      simp only [Bool.not_false, Bool.true_and, Bool.or_eq_false_iff, Bool.not_eq_false'] at h1
      exact hw _ h1.1
    · rw [emp_list] at he
      rw [size_list, List.isEmpty_iff.1 he]; decide
  · unfold tokL at h3
    simp only [Bool.and_eq_true, decide_eq_true_eq] at h3
    rw [size_list]; exact h3.1.2
theorem printR_len {r : RT} (h : badR r = false) : (printR r).length ≤ 1300 := by
  obtain ⟨h1, h2, h3⟩ := right_sizes h
  rw [size_list] at h1 h2 h3
  unfold printR
  split <;> simp only [List.length_append, List.length_singleton] <;> omega
theorem printL_len {l : List RT} (h : ∀ r ∈ l, badR r = false) : (printL l).length ≤ 1300 * l.length := by
  induction l with
  | nil => simp [printL]
  | cons a l ih =>
    have h1 := printR_len (h a (by simp))
    have h2 := ih (fun r hr => h r (by simp [hr]))
    unfold printL at h2 ⊢
    rw [List.flatMap_cons, List.length_append, List.length_cons]
    omega
theorem right_all {l : List RT} (h : checkE l = 0) : l.length ≤ 20 ∧ ∀ r ∈ l, badR r = false := by
  unfold checkE at h
  split at h
  · cases h
  · refine ⟨by omega, fun r hr => ?_⟩
    obtain ⟨k, hk, rfl⟩ := List.getElem_of_mem hr
    have := checkUpto_hd h hk
    rwa [show l.getD k default = l[k] by simp [List.getD, List.getElem?_eq_getElem hk]] at this
theorem size_mk (l : List UInt8) : (⟨l.toArray⟩ : ByteArray).size = l.length := by simp [ByteArray.size]
/-- The text of one, laid together. -/
theorem print_cat (r : RT) (b : Bool) (hb : r.host.toList.isEmpty = b) (p : List UInt8) :
    (⟨p.toArray⟩ : ByteArray) ++ (if b then ⟨#[42]⟩ else r.host) ++ ⟨#[32]⟩ ++ r.path ++ ⟨#[32]⟩ ++ r.dest ++ ⟨#[10]⟩ = ⟨(p ++ printR r).toArray⟩ := by
  unfold printR
  rw [hb]
  cases b <;> (rw [ba_cat, ba_cat, ba_cat, ba_cat, ba_cat, ba_cat]; simp [List.append_assoc])
theorem print_one (r : RT) (b : Bool) (hb : r.host.toList.isEmpty = b) :
    (if b then ⟨#[42]⟩ else r.host) ++ ⟨#[32]⟩ ++ r.path ++ ⟨#[32]⟩ ++ r.dest ++ ⟨#[10]⟩ = (⟨(printR r).toArray⟩ : ByteArray) := by
  unfold printR
  rw [hb]
  cases b
  · rw [ba_list (if false = true then ⟨#[42]⟩ else r.host), ba_cat, ba_cat, ba_cat, ba_cat, ba_cat]; simp [List.append_assoc]
  · rw [ba_list (if true = true then ⟨#[42]⟩ else r.host), ba_cat, ba_cat, ba_cat, ba_cat, ba_cat]; simp [List.append_assoc]
set_option maxRecDepth 100000 in
set_option maxHeartbeats 8000000 in
theorem print_bad (v : Value) (l : List RT) (w : World) (hl : At encR w v l) (hok : checkE l ≠ 0) :
    Calls Tryd.prog 6 #[v] w fun e w' => e = .returned (.tuple #[.string ⟨#[]⟩, .iface 46 (.int .i64 (checkE l))]) ∧ Below w.heap.size w w' := by
  have hc := check_any v l w hl
  rw [show errV (checkE l) = .iface 46 (.int .i64 (checkE l)) by unfold errV; rw [if_neg hok]] at hc
  have HC := Lib.hid hc
  obtain ⟨a, cap, rfl, hcap, hcap2, _, _⟩ := hl
  generalize checkE l = k at *
  clear hc hok
  go_enter Tryd.func6, Tryd.ntmps6
  go_wp2_with (go_at_call 15; (with_reducible refine HC.out.mono ?_); rintro e w1 ⟨rfl, hB1⟩)
  go_ret2
  exact ⟨rfl, hB1⟩
set_option maxRecDepth 100000 in
set_option maxHeartbeats 8000000 in
theorem print_ok (v : Value) (l : List RT) (w : World) (hl : At encR w v l) (hok : checkE l = 0) :
    Calls Tryd.prog 6 #[v] w fun e w' => e = .returned (.tuple #[.string (printS l), .nilIface]) ∧ Below w.heap.size w w' := by
  have hck := check_any v l w hl
  rw [show errV (checkE l) = .nilIface by unfold errV; rw [if_pos hok]] at hck
  have HCK := Lib.hid hck
  have HL := Lib.hid hl
  obtain ⟨h20, hbad⟩ := right_all hok
  have HBD := Lib.hid hbad
  obtain ⟨a, cap, rfl, hcap, hcap2, _, _⟩ := hl
  obtain ⟨RR, hRR⟩ : ∃ R, printS l = R := ⟨_, rfl⟩
  rw [hRR]
  have HR := Lib.hid hRR
  have h1 : (l.length : Int) ≤ 20 := by omega
  clear hok hbad hRR hck
  go_enter Tryd.func6, Tryd.ntmps6
  go_wp2_with (go_at_call 15; (with_reducible refine HCK.out.mono ?_); rintro e w1 ⟨rfl, hB1⟩)
  have hbu := Lib.fresh_isBuilder 52 5 w1
  have hBA : Below w.heap.size w (w1.alloc (.cells #[.pointer none, .slice none 0 0] 52)) := hB1.alloc hB1.size _
  have HBU := Lib.hid (And.intro hbu hBA)
  have hbs := hB1.size
  obtain ⟨wo, hwo⟩ : ∃ wo : World, wo = w1 := ⟨_, rfl⟩
  subst hwo
  clear hbu hBA
  go_loopw [16] (fun iv wi => ∃ (i : Nat), iv = .int .i64 i ∧ i ≤ l.length ∧ Hid (Lib.IsBuilder 52 5 wo.heap.size wo.heap.size (Lib.byteCells (printL (l.take i))) wi ∧ Below w.heap.size w wi) ∧ wo.heap.size < wi.heap.size) (fun iv _ => 21 - (intOf iv).toNat)
  case atStart => exact ⟨0, rfl, by omega, HBU, by simp⟩
  case round =>
    obtain ⟨i, rfl, hi, HI, hws⟩ := hrel
    by_cases hin : i < l.length
    · obtain ⟨ab, off, rfl, hab, hc⟩ := At.elem (HL.out.old HI.out.2) i hin
      obtain ⟨c0, c1, c2⟩ := hc i hin
      have hgd : l.getD i default = l[i] := by simp [List.getD, List.getElem?_eq_getElem hin]
      have hst := printL_snoc l i hin
      have hbr := HBD.out _ (List.getElem_mem hin)
      have hpl := printL_len (l := l.take i) (fun r hr => HBD.out r (List.mem_of_mem_take hr))
      rw [List.length_take] at hpl
      rw [hgd] at c0 c1 c2
      generalize l[i] = r at *
      obtain ⟨s1, s2, s3⟩ := right_sizes hbr
      have hpr := printR_len hbr
      have hst2 := print_one r r.host.toList.isEmpty rfl
      have HST2 := Lib.hid hst2
      have HSQ := Lib.hid hst
      have hz1 : (Lib.byteCells (printL (l.take i))).length + (⟨(printR r).toArray⟩ : ByteArray).size ≤ 140737488355328 := by rw [Lib.byteCells_length, size_mk]; omega
      have hz2 : Lib.byteCells (printL (l.take i)) ++ Lib.strCells ⟨(printR r).toArray⟩ = Lib.byteCells (printL (l.take (i + 1))) := by rw [hst, Lib.byteCells_append]; rfl
      have HZ := Lib.hid (And.intro hz1 hz2)
      obtain ⟨rh, rp, rt⟩ := r
      simp only at c0 c1 c2 HST2 s1 s2 s3
      generalize Lib.byteCells (printL (l.take i)) = bs at *
      generalize hbt : Lib.byteCells (printL (l.take (i + 1))) = bt at *
      have HBT := Lib.hid hbt
      generalize (⟨(printR ⟨rh, rp, rt⟩).toArray⟩ : ByteArray) = pr at *
      have hi0 : (0 : Int) ≤ (i : Int) := by omega
      have hi1 : (i : Int) < (l.length : Int) := by omega
      have hfr : Hid (∀ W : World, Below wr.heap.size wr W → Calls Tryd.prog 16 #[.pointer (some ⟨wo.heap.size, 0, none⟩), .string pr] W fun e w' => e = .returned (.tuple #[.int .i64 pr.size, .nilIface]) ∧ (Hid (Lib.IsBuilder 52 5 wo.heap.size wo.heap.size bt w' ∧ Below w.heap.size w w') ∧ wo.heap.size < w'.heap.size)) := (by
        intro W hW
        have hws2 := hW.size
        refine (BuilderC.write_any wo.heap.size wo.heap.size bs pr W (BuilderC.below_keep HI.out.1 hW) HZ.out.1 (by omega)).mono ?_
        rintro e w' ⟨rfl, hbw, hbl⟩
        rw [HZ.out.2] at hbw
        have hwl := hbl.size
        refine ⟨rfl, Lib.hid ⟨hbw, (HI.out.2.trans (hW.mono (by have := HI.out.2.size; omega))).trans (hbl.mono hbs)⟩, ?_⟩
        omega)
      have hBa : Below wr.heap.size wr (wr.alloc (.cells #[.string rh, .string rp, .string rt] 28)) := (Below.refl _ _).alloc (Nat.le_refl _) _
      have HBa := Lib.hid hBa
      clear hc hgd hst hst2 hbr hpl hz1 hz2 hBa hpr HI HZ HSQ hbt
      rcases e1 : rh.toList.isEmpty with _ | _
      · rw [e1] at HST2
        change Hid (rh ++ ⟨#[32]⟩ ++ rp ++ ⟨#[32]⟩ ++ rt ++ ⟨#[10]⟩ = pr) at HST2
        rw [← HST2.out] at hfr
        have k1 : ¬ 9223372036854775807 < rh.size + 1 := by omega
        have k2 : ¬ 9223372036854775807 < rh.size + 1 + rp.size := by omega
        have k3 : ¬ 9223372036854775807 < rh.size + 1 + rp.size + 1 := by omega
        have k4 : ¬ 9223372036854775807 < rh.size + 1 + rp.size + 1 + rt.size := by omega
        have k5 : ¬ 9223372036854775807 < rh.size + 1 + rp.size + 1 + rt.size + 1 := by omega
        go_wp2_with (go_at_call 16; (with_reducible refine (hfr.out _ HBa.out).mono ?_); rintro e w2 ⟨rfl, HI2, hws2⟩)
        case roundEnd => exact ⟨⟨i + 1, rfl, by omega, (by rw [HBT.out]; exact HI2), hws2⟩, (by show 21 - ((i : Int) + 1).toNat < 21 - (i : Int).toNat; omega)⟩
      · rw [e1] at HST2
        change Hid ((⟨#[42]⟩ : ByteArray) ++ ⟨#[32]⟩ ++ rp ++ ⟨#[32]⟩ ++ rt ++ ⟨#[10]⟩ = pr) at HST2
        rw [← HST2.out] at hfr
        have k1 : ¬ 9223372036854775807 < 1 + 1 := by omega
        have k2 : ¬ 9223372036854775807 < 1 + 1 + rp.size := by omega
        have k3 : ¬ 9223372036854775807 < 1 + 1 + rp.size + 1 := by omega
        have k4 : ¬ 9223372036854775807 < 1 + 1 + rp.size + 1 + rt.size := by omega
        have k5 : ¬ 9223372036854775807 < 1 + 1 + rp.size + 1 + rt.size + 1 := by omega
        go_wp2_with (go_at_call 16; (with_reducible refine (hfr.out _ HBa.out).mono ?_); rintro e w2 ⟨rfl, HI2, hws2⟩)
        case roundEnd => exact ⟨⟨i + 1, rfl, by omega, (by rw [HBT.out]; exact HI2), hws2⟩, (by show 21 - ((i : Int) + 1).toNat < 21 - (i : Int).toNat; omega)⟩
    · obtain rfl : i = l.length := by omega
      have hrr : (⟨(printL (l.take l.length)).toArray⟩ : ByteArray) = RR := by rw [← HR.out, List.take_length]; rfl
      have hstr := Tryd.Builder_String_any wo.heap.size wo.heap.size (printL (l.take l.length)) wr HI.out.1 (by omega)
      rw [hrr] at hstr
      have HSTR := Lib.hid hstr
      clear hrr hstr
      go_wp2_with (go_at_call 17; (with_reducible refine HSTR.out.mono ?_); rintro e w2 ⟨rfl, hB2⟩)
      go_ret2
      exact ⟨rfl, HI.out.2.trans (hB2.mono hbs)⟩
end Go.Proofs.YteadmakhcpjpnaaDoor.RouteC
