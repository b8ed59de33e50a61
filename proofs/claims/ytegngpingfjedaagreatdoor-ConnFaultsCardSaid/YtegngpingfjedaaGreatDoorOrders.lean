/-
  A region that draws its order, in a fence, by an invariant: each operation once, whatever came ahead of it.
-/
import Derived.OrdersIn
import Derived.TacticsIn
import Derived.RangeFuncCalls
import Derived.Test.YtegngpingfjedaaGreatDoorProg
namespace Go.Proofs.YtegngpingfjedaaGreatDoor.OrdersL
set_option linter.unusedVariables false

/-- All edges lead back. -/
def backs (ops : Array Oper) : Bool := (List.range ops.size).all fun i => ((ops[i]?).map fun o => o.after.all fun e => decide (e.on < i)).getD true
def cnt (l : Array Bool) : Nat := l.toList.countP (fun b => !b)
theorem cnt_set {l : Array Bool} {i : Nat} (hi : i < l.size) (h : l.getD i false = false) : cnt (l.setIfInBounds i true) + 1 = cnt l := by
  have h1 : l.toList[i]'(by simpa using hi) = false := by
    have : l.getD i false = l[i] := by simp [Array.getD, hi]
    rw [this] at h; simpa using h
  unfold cnt
  rw [Array.toList_setIfInBounds, List.countP_set (by simpa using hi)]
  have hpos : 0 < l.toList.countP (fun b => !b) := List.countP_pos_iff.2 ⟨_, List.getElem_mem (by simpa using hi), by rw [h1]; rfl⟩
  simp only [h1]
  simp only [Bool.not_false, if_true, Bool.not_true, Bool.false_eq_true, if_false]
  omega
theorem getD_both {l : Array Bool} {i : Nat} (hi : i < l.size) (d e : Bool) : l.getD i d = l.getD i e := by simp [Array.getD, hi]
theorem getD_put {l : Array Bool} {i : Nat} (hi : i < l.size) (j : Nat) : (l.setIfInBounds i true).getD j false = if i = j then true else l.getD j false := by
  by_cases h : i = j
  · subst h; simp [Array.getD, hi]
  · simp only [h, if_false, Array.getD]
    by_cases hj : j < l.size
    · simp [hj, h]
    · simp [hj]
theorem all_done {ops : Array Oper} {l : Array Bool} {md : Region.Mode} (hb : backs ops = true) (hs : l.size = ops.size) (h : Region.ready md ops l = []) : ∀ i, i < ops.size → l.getD i false = true := by
  intro i
  induction i using Nat.strongRecOn with
  | ind i ih =>
    intro hi
    cases hl : l.getD i false with
    | true => rfl
    | false =>
      exfalso
      have hm : i ∈ Region.ready md ops l := by
        unfold Region.ready
        refine List.mem_filter.2 ⟨List.mem_range.2 hi, ?_⟩
        rw [getD_both (by omega) true false, hl]
        have hbi := List.all_eq_true.1 hb i (List.mem_range.2 hi)
        simp only [Array.getElem?_eq_getElem hi, Option.map_some, Option.getD_some] at hbi ⊢
        simp only [Bool.not_false, Bool.true_and]
        rw [Array.all_eq_true] at hbi ⊢
        intro k hk
        have h1 := hbi k hk
        have h2 := of_decide_eq_true h1
        rw [ih _ h2 (by omega)]; simp
      rw [h] at hm; cases hm
section
variable {F : Fence} {n : Nat} {P : Program} {ops : Array Oper} {Q : Exit → Act → World → Prop} {md : Region.Mode}
/-- What is done stands behind what it waits for. -/
def Closed (md : Region.Mode) (ops : Array Oper) (l : Array Bool) : Prop := ∀ j o, ops[j]? = some o → l.getD j false = true → ∀ e ∈ o.after, Region.binds md e = true → l.getD e.on false = true
theorem Closed.put {l : Array Bool} {i : Nat} {o : Oper} (hs : l.size = ops.size) (hi : i < ops.size) (ho : ops[i]? = some o) (h : Closed md ops l) (he : ∀ e ∈ o.after, Region.binds md e = true → l.getD e.on false = true) : Closed md ops (l.setIfInBounds i true) := by
  intro j o' ho' hj e hem hb
  rw [getD_put (by omega)] at hj ⊢
  by_cases h1 : i = e.on
  · simp [h1]
  · simp only [h1, if_false]
    by_cases h2 : i = j
    · subst h2
      rw [ho] at ho'; cases ho'
      exact he e hem hb
    · simp only [h2, if_false] at hj
      exact h j o' ho' hj e hem hb
theorem wpAnyIn_inv (Inv : Array Bool → Act → World → Prop) (hb : backs ops = true)
    (hdone : ∀ l a w, l.size = ops.size → (∀ i, i < ops.size → l.getD i false = true) → Inv l a w → Q .normal a w)
    (hstep : ∀ l a w i o, l.size = ops.size → Closed md ops l → Inv l a w → i < ops.size → ops[i]? = some o → l.getD i false = false → (∀ e ∈ o.after, Region.binds md e = true → l.getD e.on false = true) → wpOpIn F n P ops Q i (fun a' w' => Inv (l.setIfInBounds i true) a' w') a w) :
    ∀ fuel l a w, l.size = ops.size → Closed md ops l → cnt l ≤ fuel → Inv l a w → wpAnyIn F n P md ops Q fuel l a w := by
  intro fuel
  induction fuel with
  | zero =>
    intro l a w hs hcl hc hI
    have hall : ∀ i, i < ops.size → l.getD i false = true := fun i hi => by
      cases hl : l.getD i false with
      | true => rfl
      | false => have := cnt_set (l := l) (i := i) (by omega) hl; omega
    refine ⟨?_, hdone l a w hs hall hI⟩
    unfold Region.ready
    refine List.filter_eq_nil_iff.2 fun i hi => ?_
    rw [getD_both (by have := List.mem_range.1 hi; omega) true false, hall i (List.mem_range.1 hi)]
    simp
  | succ fuel ih =>
    intro l a w hs hcl hc hI
    refine ⟨fun hr => hdone l a w hs (all_done hb hs hr) hI, fun i hi => ?_⟩
    unfold Region.ready at hi
    obtain ⟨hir, hp⟩ := List.mem_filter.1 hi
    have hi' := List.mem_range.1 hir
    rw [getD_both (by omega) true false] at hp
    simp only [Bool.and_eq_true, Bool.not_eq_true', Array.getElem?_eq_getElem hi', Option.map_some, Option.getD_some] at hp
    obtain ⟨hp1, hp2⟩ := hp
    have hed : ∀ e ∈ (ops[i]'hi').after, Region.binds md e = true → l.getD e.on false = true := by
      intro e he hbd
      rw [Array.all_eq_true] at hp2
      obtain ⟨k, hk, rfl⟩ := Array.mem_iff_getElem.1 he
      have := hp2 k hk
      rw [hbd] at this
      simpa using this
    refine wpOpIn_mono (fun a' w' h => ih _ _ _ (by simpa using hs) ?_ ?_ h) (hstep l a w i _ hs hcl hI hi' (Array.getElem?_eq_getElem hi') hp1 ?_)
    · exact hcl.put hs hi' (Array.getElem?_eq_getElem hi') hed
    · have := cnt_set (l := l) (i := i) (by omega) hp1; omega
    · exact hed
theorem wpIn_region_inv {id : Nat} {a : Act} {w : World} (hm : P.follows .mixedOrders = true) (Inv : Array Bool → Act → World → Prop) (hb : backs ops = true)
    (hdone : ∀ l a w, l.size = ops.size → (∀ i, i < ops.size → l.getD i false = true) → Inv l a w → Q .normal a w)
    (hstep : ∀ l a w i o, l.size = ops.size → Closed .any ops l → Inv l a w → i < ops.size → ops[i]? = some o → l.getD i false = false → (∀ e ∈ o.after, Region.binds .any e = true → l.getD e.on false = true) → wpOpIn F n P ops Q i (fun a' w' => Inv (l.setIfInBounds i true) a' w') a w)
    (h0 : Inv (Array.replicate ops.size false) a w.drew) : (Code.region id ops true).wpIn F n P Q a w :=
  wpIn_region_any hm (wpAnyIn_inv Inv hb hdone hstep _ _ _ _ (by simp) (fun j o _ hj => by simp [Array.getD] at hj) (by unfold cnt; rw [Array.toList_replicate]; exact Nat.le_trans (List.countP_le_length) (by simp)) h0)
end
end Go.Proofs.YtegngpingfjedaaGreatDoor.OrdersL
