/-
  A slice of structs that came in, taken apart: each element's cells and each field's reading.
  Conditions: the fields are of one cell.
-/
import Derived.Deep.Slices
import Derived.Deep.Fields
import Derived.ChangeSame
import Derived.WalkKit
import Derived.Below
namespace Go.Proofs.YtooplackonnemaaDoor.StructsL
open Go.ChangeShapes Go.WideShapes Go.Deep Go.RowKit
set_option linter.unusedVariables false

section
variable {H : Type} {enc : TypeId × Value → H} {P : Program} {w : World} {base : Nat} {spare : Nat → Bool} {held : Bool}
theorem plain_of {w : World} {a : Addr} {v : Value} (h : w.cell? a = some v) : a.spot = none ∧ a.block < w.heap.size := ⟨World.cell?_spot h, block_lt_of_cell h⟩
/-- A struct's cells, field by field. -/
theorem fields_of {e : TypeId} {fs : Array Field} {fuel : Nat} {cs : List Value} {x : DataW H × List MemPlace} (he : P.underlying e = some (.struct fs)) (hone : oneCellFields P fs = true) (hC : P.cellsOf e = fs.size)
    (h : DataW.trod enc P w base spare held fuel e cs = some x) : cs.length = fs.size ∧ ∃ ys : List (DataW H × List MemPlace), x.1 = .agg (ys.map (·.1)) ∧ ys.length = fs.size ∧
      ∀ (j : Nat) (f : Field) (v : Value), fs[j]? = some f → cs[j]? = some v → ∃ n y, ys[j]? = some y ∧ DataW.trod enc P w base spare held n f.type [v] = some y := by
  obtain ⟨ys, n, _, hx, hlen, hyl, hf⟩ := DataW.trod_struct he h
  refine ⟨hlen.trans hC, ys, by rw [hx], hyl, fun j f v hj hv => ?_⟩
  obtain ⟨ho, hk⟩ := hone_of hone j f hj
  have hjl : j < fs.size := (Array.getElem?_eq_some_iff.1 hj).1
  have h1 := hf j f hj
  rw [ho, hk] at h1
  have hl : j < cs.length := by rw [hlen, hC]; exact hjl
  have hone' : (cs.drop j).take 1 = [v] := by
    rw [List.drop_eq_getElem_cons hl]
    rw [List.getElem?_eq_getElem hl] at hv
    simp [Option.some.inj hv]
  rw [hone'] at h1
  have hys : ys[j]? = some (ys[j]'(by omega)) := List.getElem?_eq_getElem (by omega)
  exact ⟨n, _, hys, h1.trans hys⟩
theorem structs_of {t e : TypeId} {fs : Array Field} {fuel : Nat} {cs : List Value} {x : DataW H × List MemPlace} (ht : P.underlying t = some (.slice e)) (he : P.underlying e = some (.struct fs)) (hone : oneCellFields P fs = true) (hC : P.cellsOf e = fs.size) (h0 : 0 < fs.size)
    (h : DataW.trod enc P w base spare held fuel t cs = some x) :
    ∃ (a : Option Addr) (len cap : Nat), cs = [.slice a len cap] ∧ len ≤ cap ∧ cap ≤ 9223372036854775807 ∧ (a = none → cap = 0) ∧
      ∀ i, i < len → ∃ (b off : Nat) (vs : List Value) (d : DataW H), a = some ⟨b, off, none⟩ ∧ b < w.heap.size ∧ vs.length = fs.size ∧ (∀ j, j < fs.size → w.cell? ⟨b, off + (i * fs.size + j), none⟩ = vs[j]?) ∧
        ∃ ys : List (DataW H × List MemPlace), d = .agg (ys.map (·.1)) ∧ ys.length = fs.size ∧ ∀ (j : Nat) (f : Field) (v : Value), fs[j]? = some f → vs[j]? = some v → ∃ n y, ys[j]? = some y ∧ DataW.trod enc P w base spare held n f.type [v] = some y := by
  rcases open_slice ht h with ⟨rfl, _⟩ | ⟨a, len, cap, m, n, D, Pl, rfl, hb, hl, hm, hmm, hx, hi⟩
  · exact ⟨none, 0, 0, rfl, Nat.le_refl _, by decide, fun _ => rfl, fun i hi => absurd hi (by omega)⟩
  · refine ⟨some a, len, cap, rfl, hl, by simpa [maxLen] using hm, by simp, fun i hi' => ?_⟩
    have him : i < m := by rw [hmm]; split <;> omega
    obtain ⟨vs, hc, ht'⟩ := hi i him
    rw [hC] at hc
    obtain ⟨hv, ys, h1, h2, h3⟩ := fields_of he hone hC ht'
    obtain ⟨_, hcl, hat⟩ := World.cells?_some hc
    have hc0 := hat 0 h0
    rw [List.getElem?_eq_getElem (by omega)] at hc0
    obtain ⟨hs, hlt⟩ := plain_of hc0
    obtain ⟨vs0, hc00, ht0⟩ := hi 0 (by omega)
    rw [hC] at hc00
    obtain ⟨_, hcl0, hat0⟩ := World.cells?_some hc00
    have hc01 := hat0 0 h0
    rw [List.getElem?_eq_getElem (by omega)] at hc01
    obtain ⟨hs0, _⟩ := plain_of hc01
    obtain ⟨b, off, spot⟩ := a
    have hspot : spot = none := by simpa [Addr.add] using hs0
    subst hspot
    refine ⟨b, off, vs, D i, rfl, ?_, hv, fun j hj => ?_, ys, h1, h2, h3⟩
    · have : (((⟨b, off, none⟩ : Addr).add (i * fs.size)).add 0).block < w.heap.size := hlt
      simpa [Go.WideShapes.add_plain] using this
    · have := hat j hj
      rw [Go.WideShapes.add_plain, Go.WideShapes.add_plain] at this
      rw [← Nat.add_assoc]; exact this
end
end Go.Proofs.YtooplackonnemaaDoor.StructsL
