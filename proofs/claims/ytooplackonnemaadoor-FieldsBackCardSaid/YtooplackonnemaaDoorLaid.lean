/-
  What the listed tables read, taken out of the row's word on them.
  Conditions: none.
-/
import Derived.Test.YtooplackonnemaaDoorRows
import Derived.Lib.LaidTab
import Derived.Lib.ItoaNum
import Derived.WalkKit
import Derived.ProofKit
import Derived.OpenShut
import Derived.LaidMore
import Derived.LaidHandle
namespace Go.Proofs.YtooplackonnemaaDoor.Laid
open Go.ChangeShapes Go.WideShapes Go.ChangeAt Go.RowKit
set_option linter.unusedVariables false

theorem member {P : Program} {w : World} : ∀ {l : List (String × DataW Unit)} {ps : List MemPlace}, DataW.LaidVars P w l ps → ∀ n d, (n, d) ∈ l → ∃ g t cs fuel p, P.globalNamed n = some g ∧ (P.globals[g]?).map (·.type) = some t ∧ w.var? P n = some cs ∧ DataW.trod (fun _ => ()) P w 0 (fun _ => true) false fuel t cs.toList = some (d, p)
  | [], _, _, _, _, h => by cases h
  | (n0, d0) :: r, ps, h, n, d, hm => by
    obtain ⟨g, t, cs, fuel, p, q, h1, h2, h3, h4, h5, _⟩ := h
    rcases List.mem_cons.1 hm with e | hm
    · cases e; exact ⟨g, t, cs, fuel, p, h1, h2, h3, h4⟩
    · exact member h5 n d hm
theorem plain_of {P : Program} {l : List (String × DataW Unit)} {w : World} (h : laidMetH P l w) : laidMet P (l.filter fun x => x.2.handleName?.isNone) w := by
  unfold laidMetH at h
  generalize hfl : (l.filter fun x => x.2.handleName?.isSome) = fl at h
  cases fl with
  | nil =>
    have e : (l.filter fun x => x.2.handleName?.isNone) = l := by
      rw [List.filter_eq_self]
      intro x hx
      have := (List.filter_eq_nil_iff.1 hfl) x hx
      cases hn : x.2.handleName? with
      | none => rfl
      | some y => rw [hn] at this; exact absurd rfl this
    rw [e]; exact h
  | cons x xs => exact h.1
/-- An array of numbers, listed: its cells. -/
theorem array_cell {P : Program} {w : World} {l : List (String × DataW Unit)} (h : laidMetH P l w) (n : String) (ks : List Int) (k : IntKind) (hm : (n, DataW.agg (ks.map fun z => .lit (.int k z))) ∈ l.filter fun x => x.2.handleName?.isNone) (g t e len : Nat)
    (hg : P.globalNamed n = some g) (ht : (P.globals[g]?).map (·.type) = some t) (hu : P.underlying t = some (.array len e)) (he : P.underlying e = some (.int k)) (hc : P.cellsOf e = 1) (i : Nat) (hi : i < ks.length) : w.cell? ⟨g, i, none⟩ = some (.int k (ks.getD i 0)) := by
  obtain ⟨ps, hL, _, _⟩ := plain_of h
  obtain ⟨g', t', cs, fuel, p, hg', ht', hv, hd⟩ := member hL n _ hm
  obtain rfl := Option.some.inj (hg.symm.trans hg')
  obtain rfl := Option.some.inj (ht.symm.trans ht')
  obtain ⟨xs, m, _, ex, _, hl, hel⟩ := DataW.trod_array hu hd
  have e3 : (xs.map (·.1)) = ks.map fun z => .lit (.int k z) := (DataW.agg.inj (Prod.mk.inj ex).1).symm
  have hxl : xs.length = ks.length := by simpa using congrArg List.length e3
  have hE := hel i (by omega)
  rw [hc, Nat.mul_one, List.getElem?_eq_getElem (by omega)] at hE
  obtain ⟨z, e1, e2, _⟩ := DataW.trod_int he hE
  have e4 : (xs.map (·.1))[i]? = (ks.map fun z => (DataW.lit (.int k z) : DataW Unit))[i]? := by rw [e3]
  rw [List.getElem?_map, List.getElem?_map, List.getElem?_eq_getElem (by omega : i < xs.length), List.getElem?_eq_getElem hi, e2] at e4
  have hz : z = ks.getD i 0 := by
    simp only [Option.map_some, Option.some.injEq, DataW.lit.injEq, Lit.int.injEq, true_and] at e4
    rw [e4, List.getD, List.getElem?_eq_getElem hi]; rfl
  rw [World.var?_cell hg hv i, ← hz]
  have : cs.toList[i]? = some (.int k z) := by
    have h0 : ((cs.toList.drop i).take 1)[0]? = some (.int k z) := by rw [e1]; rfl
    simpa using h0
  simpa using this
/-- An array of numbers, listed: as the library's contracts say it. -/
theorem tab_is {P : Program} {w : World} {l : List (String × DataW Unit)} (h : laidMetH P l w) (n : String) (zs : List Int) (k : IntKind) (hm : (n, Lib.tabData k zs) ∈ l.filter fun x => x.2.handleName?.isNone) (g t e len : Nat)
    (hg : P.globalNamed n = some g) (ht : (P.globals[g]?).map (·.type) = some t) (hu : P.underlying t = some (.array len e)) (he : P.underlying e = some (.int k)) (hc : P.cellsOf e = 1) (hct : P.cellsOf t = len) : Lib.TabIs P w n k zs := by
  obtain ⟨ps, hL, _, _⟩ := plain_of h
  obtain ⟨g', t', cs, fuel, p, hg', ht', hv, hd⟩ := member hL n _ hm
  obtain rfl := Option.some.inj (hg.symm.trans hg')
  obtain rfl := Option.some.inj (ht.symm.trans ht')
  unfold Lib.TabIs
  rw [hv, ← Lib.cells_of_tab hu he hc hct hd]
theorem pow10_eq : (Rows.laid_internal_strconv_uint64pow10 : DataW Unit) = Lib.tabData .u64 Lib.pow10Tab := by kernel_rfl
theorem pow10_is {w : World} {l : List (String × DataW Unit)} (h : laidMetH Tryd.prog l w) (hm : ("internal/strconv.uint64pow10", Rows.laid_internal_strconv_uint64pow10) ∈ l.filter fun x => x.2.handleName?.isNone) (t e : Nat) (ht : (Tryd.prog.globals[3]?).map (·.type) = some t) (hu : Tryd.prog.underlying t = some (.array 20 e)) (he : Tryd.prog.underlying e = some (.int .u64)) (hc : Tryd.prog.cellsOf e = 1) (hct : Tryd.prog.cellsOf t = 20) : Lib.TabIs Tryd.prog w "internal/strconv.uint64pow10" .u64 Lib.pow10Tab :=
  tab_is h _ Lib.pow10Tab .u64 (pow10_eq ▸ hm) 3 t e 20 (by kernel_rfl) ht hu he hc hct
end Go.Proofs.YtooplackonnemaaDoor.Laid
