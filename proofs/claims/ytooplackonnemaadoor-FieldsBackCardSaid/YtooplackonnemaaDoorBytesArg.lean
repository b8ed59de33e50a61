/-
  A []byte that came in.
  Conditions: none.
-/
import Derived.Test.YtooplackonnemaaDoorBytesAt
import Derived.OpenShut
namespace Go.Proofs.YtooplackonnemaaDoor.Args
open Go.RowKit Go.ChangeShapes Go.WideShapes
set_option linter.unusedVariables false
set_option linter.unusedSimpArgs false
/-- v is a []byte with these elements. -/
def BytesAt (w : World) (v : Value) (l : List Int) : Prop := BA.BytesAt w v l ∧ ∀ z ∈ l, 0 ≤ z ∧ z ≤ 255
section
variable {H : Type} {enc : TypeId × Value → H} {w : World} {base : Nat} {held : Bool}
theorem bytes_of {P : Program} {t e : TypeId} {fuel : Nat} {cs : List Value} {x : DataW H × List MemPlace} (ht : P.underlying t = some (.slice e)) (he : P.underlying e = some (.int .u8)) (hc : P.cellsOf e = 1)
    (h : DataW.trod enc P w base (fun _ => true) held fuel t cs = some x) : ∃ v zs, cs = [v] ∧ BytesAt w v zs := by
  rcases open_ints ht he hc h with ⟨rfl, _⟩ | ⟨a, len, cap, zs, rfl, _, hl, hm, hz, _, hcell, hwz⟩
  · exact ⟨_, [], rfl, ⟨none, 0, rfl, by simp [BytesL.valB], by simp, by simp, by simp [BytesL.valB]⟩, by simp⟩
  · simp only [if_true] at hz
    refine ⟨_, zs.take len, rfl, rowAt_of_cells hl hm (by simp) (by simp [BytesL.valB]; omega) (fun x hx i hi => ?_), fun z hz' => bounds_u8 (hwz z (List.mem_of_mem_take hz'))⟩
    obtain rfl := Option.some.inj hx
    rw [hcell i (by omega)]
    simp [BytesL.valB, List.getElem?_take, hi, List.getElem?_eq_getElem (show i < zs.length by omega)]
theorem bytes_of_sized {P : Program} {t e : TypeId} {fuel : Nat} {cs : List Value} {x : DataW H × List MemPlace} (ht : P.underlying t = some (.slice e)) (he : P.underlying e = some (.int .u8)) (hc : P.cellsOf e = 1) (hby : P.bytesOf e = 1)
    (h : DataW.trod enc P w base (fun _ => true) held fuel t cs = some x) (hw : (x.1.weights P t).all (· ≤ reachBytes) = true) : ∃ v zs, cs = [v] ∧ BytesAt w v zs ∧ zs.length ≤ reachBytes := by
  rcases open_ints ht he hc h with ⟨rfl, _⟩ | ⟨a, len, cap, zs, rfl, _, hl, hm, hz, hx0, hcell, hwz⟩
  · exact ⟨_, [], rfl, ⟨⟨none, 0, rfl, by simp [BytesL.valB], by simp, by simp, by simp [BytesL.valB]⟩, by simp⟩, by simp⟩
  · simp only [if_true] at hz
    subst hx0
    simp only [DataW.weights, ht, hby, List.all_cons, Bool.and_eq_true, decide_eq_true_eq, lits, List.length_map, List.length_take, List.length_drop] at hw
    refine ⟨_, zs.take len, rfl, ⟨rowAt_of_cells hl hm (by simp) (by simp [BytesL.valB]; omega) (fun x hx i hi => ?_), fun z hz' => bounds_u8 (hwz z (List.mem_of_mem_take hz'))⟩, by rw [List.length_take]; omega⟩
    obtain rfl := Option.some.inj hx
    rw [hcell i (by omega)]
    simp [BytesL.valB, List.getElem?_take, hi, List.getElem?_eq_getElem (show i < zs.length by omega)]
end
end Go.Proofs.YtooplackonnemaaDoor.Args
