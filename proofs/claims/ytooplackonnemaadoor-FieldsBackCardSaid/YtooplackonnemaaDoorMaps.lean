/-
  A Go map as an association list: what block b holds, up to order; look-up, store, length, delete, range, over the guide's laws on a map that the call has made. The elements may be any values.
  Conditions: none.
-/
import Derived.Maps.RangeWalk
import Derived.Maps.OwnSet
import Derived.Below
namespace Go.Proofs.YtooplackonnemaaDoor.MapsL
open Go.RowKit Go.Maps Go.WideAt
set_option linter.unusedSimpArgs false
set_option linter.unusedVariables false

/-- Every value reads as itself. -/
def RV (v : Value) : Option (DataW Value × List MemPlace) := some (.held v, [])
abbrev AL := List (Lit × Value)
def enc (l : AL) : List (Lit × DataW Value) := l.map fun p => (p.1, .held p.2)
def find (l : AL) (k : Lit) : Option Value := (l.find? fun p => p.1.sameKey k).map (·.2)
def putA (l : AL) (k : Lit) (v : Value) : AL := match l with
  | [] => [(k, v)]
  | p :: r => if p.1.sameKey k then (k, v) :: r else p :: putA r k v
def delA (l : AL) (k : Lit) : AL := l.filter fun p => !p.1.sameKey k
def Keys (l : AL) : Prop := l.Pairwise (fun p q => p.1 ≠ q.1) ∧ ∀ p ∈ l, IsKeyLit p.1

/-- Block b is a map that holds l, in whatever order. -/
def MapIs (w : World) (P : Program) (k : TypeId) (b : Nat) (l : AL) : Prop :=
  Keys l ∧ ∃ es, w.ownsMap P k RV b l.length (.map es) ∧ es.Perm (enc l)

theorem find_nil (k : Lit) : find [] k = none := rfl
theorem find_cons (p : Lit × Value) (l : AL) (k : Lit) : find (p :: l) k = if p.1.sameKey k then some p.2 else find l k := by
  simp only [find, List.find?_cons]; split <;> simp_all
theorem find_some {l : AL} {k : Lit} {v : Value} (h : find l k = some v) : ∃ p ∈ l, p.1 = k ∧ p.2 = v := by
  simp only [find, Option.map_eq_some_iff] at h
  obtain ⟨p, hp, rfl⟩ := h
  exact ⟨p, List.mem_of_find?_eq_some hp, sameKey_eq (List.find?_some (p := fun p : Lit × Value => p.1.sameKey k) hp), rfl⟩
theorem find_none {l : AL} {k : Lit} (h : find l k = none) : ∀ p ∈ l, p.1.sameKey k = false := by
  simp only [find, Option.map_eq_none_iff, List.find?_eq_none] at h
  intro p hp; simpa using h p hp
theorem find_mem {l : AL} (hk : Keys l) {p : Lit × Value} (hp : p ∈ l) : find l p.1 = some p.2 := by
  induction l with
  | nil => simp at hp
  | cons q l ih =>
    rw [find_cons]
    rcases List.mem_cons.1 hp with rfl | hp
    · rw [if_pos (sameKey_self (hk.2 _ (by simp)))]
    · have hne := List.rel_of_pairwise_cons hk.1 hp
      rw [sameKey_ne hne, if_neg (by simp)]
      exact ih ⟨hk.1.of_cons, fun p hp => hk.2 p (by simp [hp])⟩ hp
theorem putA_len (l : AL) (k : Lit) (v : Value) : (putA l k v).length = if (find l k).isSome then l.length else l.length + 1 := by
  induction l with
  | nil => simp [putA, find]
  | cons p l ih =>
    simp only [putA, find_cons]
    split
    · simp
    · simp only [List.length_cons, ih]; split <;> simp
theorem putA_keys_mem {l : AL} {k : Lit} {v : Value} {q : Lit × Value} (h : q ∈ putA l k v) : q = (k, v) ∨ (q ∈ l ∧ q.1 ≠ k) ∨ q ∈ l := by
  induction l with
  | nil => simp [putA] at h; exact .inl h
  | cons p l ih =>
    simp only [putA] at h
    split at h
    · rcases List.mem_cons.1 h with h | h
      · exact .inl h
      · exact .inr (.inr (by simp [h]))
    · rcases List.mem_cons.1 h with h | h
      · exact .inr (.inr (by simp [h]))
      · rcases ih h with h | h | h
        · exact .inl h
        · exact .inr (.inr (by simp [h.1]))
        · exact .inr (.inr (by simp [h]))
theorem putA_keys {l : AL} (hk : Keys l) {k : Lit} (hkey : IsKeyLit k) (v : Value) : Keys (putA l k v) := by
  induction l with
  | nil => exact ⟨by simp [putA], by simpa [putA] using hkey⟩
  | cons p l ih =>
    have ih' := ih ⟨hk.1.of_cons, fun p hp => hk.2 p (by simp [hp])⟩
    simp only [putA]
    split
    · rename_i h
      have e := sameKey_eq h
      refine ⟨List.pairwise_cons.2 ⟨fun q hq => ?_, hk.1.of_cons⟩, fun q hq => ?_⟩
      · have := List.rel_of_pairwise_cons hk.1 hq; rw [← e]; exact this
      · rcases List.mem_cons.1 hq with rfl | hq
        · exact hkey
        · exact hk.2 q (by simp [hq])
    · rename_i h
      refine ⟨List.pairwise_cons.2 ⟨fun q hq => ?_, ih'.1⟩, fun q hq => ?_⟩
      · rcases putA_keys_mem hq with rfl | hq | hq
        · intro e; apply h; show p.1.sameKey k = true; rw [e]; exact sameKey_self hkey
        · exact List.rel_of_pairwise_cons hk.1 hq.1
        · exact List.rel_of_pairwise_cons hk.1 hq
      · rcases List.mem_cons.1 hq with rfl | hq
        · exact hk.2 _ (by simp)
        · exact ih'.2 q hq
theorem putA_perm (l : AL) (hk : Keys l) (k : Lit) (hkey : IsKeyLit k) (v : Value) : (putA l k v).Perm ((k, v) :: l.filter fun p => !p.1.sameKey k) := by
  induction l with
  | nil => simp [putA]
  | cons p l ih =>
    have hk' : Keys l := ⟨hk.1.of_cons, fun p hp => hk.2 p (by simp [hp])⟩
    simp only [putA, List.filter_cons]
    split
    · rename_i h
      simp only [h, Bool.not_true, Bool.false_eq_true, if_false]
      have : l.filter (fun p => !p.1.sameKey k) = l := by
        apply List.filter_eq_self.2
        intro q hq
        have hne := List.rel_of_pairwise_cons hk.1 hq
        rw [sameKey_eq h] at hne
        rw [sameKey_ne (Ne.symm hne)]; rfl
      rw [this]
    · rename_i h
      simp only [Bool.not_eq_true] at h
      simp only [h, Bool.not_false, if_true]
      exact ((ih hk').cons p).trans (List.Perm.swap _ _ _)
theorem find_putA (l : AL) (k : Lit) (hkey : IsKeyLit k) (v : Value) (k' : Lit) : find (putA l k v) k' = if k.sameKey k' then some v else find l k' := by
  induction l with
  | nil => simp [putA, find_cons, find_nil]
  | cons p l ih =>
    simp only [putA]
    split
    · rename_i h
      have e := sameKey_eq h
      simp only [find_cons, e]
      split <;> rfl
    · rename_i h
      simp only [find_cons, ih]
      by_cases h1 : k.sameKey k' = true
      · have e := sameKey_eq h1
        subst e
        simp only [Bool.not_eq_true] at h
        simp [h, h1]
      · simp only [h1]; rfl

theorem enc_find {es : List (Lit × DataW Value)} {l : AL} (hk : Keys l) (hp : es.Perm (enc l)) (kl : Lit) : (es.find? fun p => p.1.sameKey kl).map (·.2) = (find l kl).map DataW.held := by
  cases hf : find l kl with
  | none =>
    have h := find_none hf
    rw [Option.map_none, Option.map_eq_none_iff, List.find?_eq_none]
    intro p hp'
    obtain ⟨q, hq, rfl⟩ := List.mem_map.1 (hp.mem_iff.1 hp')
    simpa using h q hq
  | some v =>
    obtain ⟨p, hpl, rfl, rfl⟩ := find_some hf
    have hm : (p.1, DataW.held p.2) ∈ es := hp.mem_iff.2 (List.mem_map.2 ⟨p, hpl, rfl⟩)
    cases hg : es.find? fun q => q.1.sameKey p.1 with
    | none =>
      have := List.find?_eq_none.1 hg _ hm
      simp [sameKey_self (hk.2 p hpl)] at this
    | some q =>
      have hq := List.mem_of_find?_eq_some hg
      have e := sameKey_eq (List.find?_some (p := fun q : Lit × DataW Value => q.1.sameKey p.1) hg)
      obtain ⟨q', hq', rfl⟩ := List.mem_map.1 (hp.mem_iff.1 hq)
      simp only at e
      have : find l q'.1 = some q'.2 := find_mem hk hq'
      rw [e, find_mem hk hpl] at this
      simp only [Option.map_some, Option.some.injEq] at this ⊢
      rw [this]
theorem enc_at {es : List (Lit × DataW Value)} {l : AL} (hk : Keys l) (hp : es.Perm (enc l)) (kl : Lit) (z : DataW Value) : (DataW.map es).atKey kl z = ((find l kl).map DataW.held).getD z := by
  rw [← enc_find hk hp]
  simp only [DataW.atKey]
  cases es.find? fun p => p.1.sameKey kl <;> rfl
theorem enc_has {es : List (Lit × DataW Value)} {l : AL} (hk : Keys l) (hp : es.Perm (enc l)) (kl : Lit) : Maps.has (DataW.map es) kl = (find l kl).isSome := by
  have h := enc_find hk hp kl
  rw [Maps.has_eq]
  cases hf : find l kl with
  | none =>
    rw [hf] at h
    simp only [Option.map_none, Option.map_eq_none_iff, List.find?_eq_none] at h
    simpa using h
  | some v =>
    rw [hf] at h
    simp only [Option.map_some, Option.map_eq_some_iff] at h
    obtain ⟨p, hp', _⟩ := h
    simp only [Option.isSome_some, List.any_eq_true]
    exact ⟨p, List.mem_of_find?_eq_some hp', by simpa using List.find?_some hp'⟩
theorem insert_perm (x : Lit × DataW Value) : ∀ l : List (Lit × DataW Value), (DataW.insert x l).Perm (x :: l)
  | [] => by simp [DataW.insert]
  | y :: r => by
    simp only [DataW.insert]
    split
    · exact List.Perm.refl _
    · exact ((insert_perm x r).cons y).trans (List.Perm.swap _ _ _)

section
variable {P : Program} {k : TypeId} {w : World} {b : Nat} {l : AL}
theorem MapIs.made (w : World) (P : Program) (k : TypeId) : MapIs (w.alloc (.map #[] 0)) P k w.heap.size [] :=
  ⟨⟨List.Pairwise.nil, by simp⟩, [], World.ownsMap_made w P k RV, List.Perm.refl _⟩
theorem MapIs.lt (h : MapIs w P k b l) : b < w.heap.size := by obtain ⟨_, es, h, _⟩ := h; exact h.lt
theorem MapIs.of_block {w' : World} (h : MapIs w P k b l) (hb : w'.heap[b]? = w.heap[b]?) : MapIs w' P k b l := by
  obtain ⟨hk, es, ⟨es0, clock, h1, h2⟩, hp⟩ := h
  exact ⟨hk, es, ⟨es0, clock, hb.trans h1, h2⟩, hp⟩
theorem MapIs.below {w' : World} {B : Nat} (h : MapIs w P k b l) (hB : Below B w w') (hb : b < B) : MapIs w' P k b l := h.of_block (hB.block b hb)
theorem MapIs.kept {w' : World} {row : Option Nat} (h : MapIs w P k b l) (hg : w.grownBy w' row) (hne : some b ≠ row) : MapIs w' P k b l := h.of_block (hg.block b h.lt hne)
theorem MapIs.alloc (h : MapIs w P k b l) (o : Obj) : MapIs (w.alloc o) P k b l := h.kept (World.grownBy_alloc w o none) (by simp)
theorem MapIs.setCell (h : MapIs w P k b l) (a : Addr) (v : Value) (hne : a.block ≠ b) : MapIs (w.setCell a v) P k b l := h.of_block (Below.heap_setCell _ _ _ _ (Ne.symm hne))
theorem MapIs.drew (h : MapIs w P k b l) : MapIs w.drew P k b l := h.of_block rfl
end

section
variable {P : Program} {ops : Array Oper} {rest : List Oper} {o : Oper} {a : Act} {Q : Exit → Act → World → Prop} {w : World}
/-- 'v, ok := m[k]'. -/
theorem wpList_look_ok (hg : o.guard = none) (m x : Operand) (t : TypeId) (hop : o.op = Op.lookup t m x true)
    (k e : TypeId) (K : Keyed P k) (ht : P.underlying t = some (.map k e)) (z : Value) (hz : (zeroValue e).run P w = .ok z w) (b : Nat) (l : AL)
    (hm : a.eval m = .map (some b)) (hown : MapIs w P k b l) (key : Value) (kl : Lit) (hx : a.eval x = key) (hkey : keyOf P k key = some kl)
    (hK : wpList P ops Q rest (a.put o.dst (.tuple #[(find l kl).getD z, .bool (find l kl).isSome])) w) : wpList P ops Q (o :: rest) a w := by
  obtain ⟨hk, es, ⟨es0, clock, hb, F, hs, hD⟩, hp⟩ := hown
  refine wpList_plain hg fun K' hK' => ?_
  have hat : ∀ zd, (DataW.map es).atKey kl zd = _ := enc_at hk hp kl
  rw [hD] at hat
  rcases Maps.fit_look true K ht hz hb F hkey with ⟨hrun, _, h2⟩ | ⟨e0, y, _, _, hrun, hRv, h2, _⟩
  · have hf : find l kl = none := by
      cases hf : find l kl with
      | none => rfl
      | some v => have := (h2 .nil).symm.trans (hat .nil); rw [hf] at this; cases this
    unfold Oper.wp
    rw [hf] at hK
    simp [execOp, hop, hm, hx, hrun, Result.andThen]
    exact hK' _ _ hK
  · have hy : y = (.held e0.val, []) := (Option.some.inj hRv).symm
    have hf : find l kl = some e0.val := by
      cases hf : find l kl with
      | none => have := (h2 .nil).symm.trans (hat .nil); rw [hf, hy] at this; cases this
      | some v => have := (h2 .nil).symm.trans (hat .nil); rw [hf, hy] at this; cases this; rfl
    unfold Oper.wp
    rw [hf] at hK
    simp [execOp, hop, hm, hx, hrun, Result.andThen]
    exact hK' _ _ hK
/-- 'm[k]'. -/
theorem wpList_look (hg : o.guard = none) (m x : Operand) (t : TypeId) (hop : o.op = Op.lookup t m x false)
    (k e : TypeId) (K : Keyed P k) (ht : P.underlying t = some (.map k e)) (z : Value) (hz : (zeroValue e).run P w = .ok z w) (b : Nat) (l : AL)
    (hm : a.eval m = .map (some b)) (hown : MapIs w P k b l) (key : Value) (kl : Lit) (hx : a.eval x = key) (hkey : keyOf P k key = some kl)
    (hK : wpList P ops Q rest (a.put o.dst ((find l kl).getD z)) w) : wpList P ops Q (o :: rest) a w := by
  obtain ⟨hk, es, ⟨es0, clock, hb, F, hs, hD⟩, hp⟩ := hown
  refine wpList_plain hg fun K' hK' => ?_
  have hat : ∀ zd, (DataW.map es).atKey kl zd = _ := enc_at hk hp kl
  rw [hD] at hat
  rcases Maps.fit_look false K ht hz hb F hkey with ⟨hrun, _, h2⟩ | ⟨e0, y, _, _, hrun, hRv, h2, _⟩
  · have hf : find l kl = none := by
      cases hf : find l kl with
      | none => rfl
      | some v => have := (h2 .nil).symm.trans (hat .nil); rw [hf] at this; cases this
    unfold Oper.wp
    rw [hf] at hK
    simp [execOp, hop, hm, hx, hrun, Result.andThen]
    exact hK' _ _ hK
  · have hy : y = (.held e0.val, []) := (Option.some.inj hRv).symm
    have hf : find l kl = some e0.val := by
      cases hf : find l kl with
      | none => have := (h2 .nil).symm.trans (hat .nil); rw [hf, hy] at this; cases this
      | some v => have := (h2 .nil).symm.trans (hat .nil); rw [hf, hy] at this; cases this; rfl
    unfold Oper.wp
    rw [hf] at hK
    simp [execOp, hop, hm, hx, hrun, Result.andThen]
    exact hK' _ _ hK
/-- 'm[k] = v'. -/
theorem wpList_put (hg : o.guard = none) (m x v : Operand) (t : TypeId) (hop : o.op = Op.mapUpdate t m x v)
    (k e : TypeId) (K : Keyed P k) (ht : P.underlying t = some (.map k e)) (b : Nat) (l : AL)
    (hm : a.eval m = .map (some b)) (hown : MapIs w P k b l) (hn : l.length < 9223372036854775807) (key val : Value) (kl : Lit) (hx : a.eval x = key) (hv : a.eval v = val) (hkey : keyOf P k key = some kl) (hkl : IsKeyLit kl)
    (hK : ∀ w', MapIs w' P k b (putA l kl val) → w.grownBy w' (some b) → wpList P ops Q rest (a.put o.dst undef) w') : wpList P ops Q (o :: rest) a w := by
  obtain ⟨hk, es, hown, hp⟩ := hown
  refine wpList_mapUpdate_own w hg m x v t hop k e K ht RV b l.length (.map es) hm hown (by simp only [maxLen]; omega) key val kl hx hv hkey (.held val) [] rfl fun w' h1 h2 => hK w' ⟨putA_keys hk hkl val, DataW.insert (kl, .held val) (es.filter fun p => !p.1.sameKey kl), ?_, ?_⟩ h2
  · obtain ⟨es0, clock, hb, F, hs, hD⟩ := h1
    refine ⟨es0, clock, hb, F, ?_, hD⟩
    have e1 : es0.size = ((es0.toList.map (WideElems.rg P k RV)).foldr DataW.insert []).length := by rw [length_sorted]; simp
    rw [e1]
    have e2 := congrArg (fun d => match d with | .map es => es.length | _ => 0) hD
    simp only [DataW.put] at e2
    rw [← e2, (insert_perm _ _).length_eq, List.length_cons]
    have e3 := (hp.filter (fun p => !p.1.sameKey kl)).length_eq
    rw [e3]
    have e4 := (putA_perm l hk kl hkl val).length_eq
    rw [e4, List.length_cons]
    simp only [enc, List.filter_map, List.length_map]
    exact Nat.le_refl _
  · refine (insert_perm _ _).trans ?_
    have e4 := (putA_perm l hk kl hkl val).map (fun p : Lit × Value => (p.1, DataW.held p.2))
    refine List.Perm.trans ?_ e4.symm
    simp only [List.map_cons]
    refine List.Perm.cons _ ((hp.filter _).trans ?_)
    simp only [enc, List.filter_map]
    exact List.Perm.refl _
/-- 'm[k] = v', its run. -/
theorem run_put (t : TypeId) (k e : TypeId) (K : Keyed P k) (ht : P.underlying t = some (.map k e)) (b : Nat) (l : AL) (hown : MapIs w P k b l) (hn : l.length < 9223372036854775807) (key val : Value) (kl : Lit) (hkey : keyOf P k key = some kl) (hkl : IsKeyLit kl) :
    ∃ w', (Instr.mapUpdate t (.map (some b)) key val).run P w = .ok () w' ∧ MapIs w' P k b (putA l kl val) ∧ w.grownBy w' (some b) := by
  obtain ⟨hk, es, hown, hp⟩ := hown
  obtain ⟨w', hrun, h1, h2⟩ := hown.update (R := RV) K ht (n := l.length) (by simp only [maxLen]; omega) hkey (val := val) (d := .held val) (ps := []) rfl
  refine ⟨w', hrun, ⟨putA_keys hk hkl val, DataW.insert (kl, .held val) (es.filter fun p => !p.1.sameKey kl), ?_, ?_⟩, h2⟩
  · obtain ⟨es0, clock, hb, F, hs, hD⟩ := h1
    refine ⟨es0, clock, hb, F, ?_, hD⟩
    have e1 : es0.size = ((es0.toList.map (WideElems.rg P k RV)).foldr DataW.insert []).length := by rw [length_sorted]; simp
    rw [e1]
    have e2 := congrArg (fun d => match d with | .map es => es.length | _ => 0) hD
    simp only [DataW.put] at e2
    rw [← e2, (insert_perm _ _).length_eq, List.length_cons]
    have e3 := (hp.filter (fun p => !p.1.sameKey kl)).length_eq
    rw [e3]
    have e4 := (putA_perm l hk kl hkl val).length_eq
    rw [e4, List.length_cons]
    simp only [enc, List.filter_map, List.length_map]
    exact Nat.le_refl _
  · refine (insert_perm _ _).trans ?_
    have e4 := (putA_perm l hk kl hkl val).map (fun p : Lit × Value => (p.1, DataW.held p.2))
    refine List.Perm.trans ?_ e4.symm
    simp only [List.map_cons]
    refine List.Perm.cons _ ((hp.filter _).trans ?_)
    simp only [enc, List.filter_map]
    exact List.Perm.refl _
/-- 'len(m)', its run. -/
theorem run_len (t : TypeId) (k e : TypeId) (ht : P.underlying t = some (.map k e)) (b : Nat) (l : AL) (hown : MapIs w P k b l) (ty : TypeId) : (Builtin.len_ #[t] ty #[.map (some b)]).run P w = .ok (.int .i64 l.length) w := by
  obtain ⟨hk, es, hown, hp⟩ := hown
  rw [hown.len ht ty, show Maps.size (DataW.map es) = l.length from by rw [Maps.size_eq, hp.length_eq]; simp [enc]]
/-- 'len(m)'. -/
theorem wpList_len (hg : o.guard = none) (m : Operand) (t : TypeId) (hop : o.op = Op.call { callee := Callee.builtin Builtin.len, args := #[m], argTypes := #[t] })
    (k e : TypeId) (ht : P.underlying t = some (.map k e)) (b : Nat) (l : AL) (hm : a.eval m = .map (some b)) (hown : MapIs w P k b l)
    (hK : wpList P ops Q rest (a.put o.dst (.int .i64 l.length)) w) : wpList P ops Q (o :: rest) a w := by
  obtain ⟨hk, es, hown, hp⟩ := hown
  refine wpList_len_own w hg m t hop k e ht RV b l.length (.map es) hm hown ?_
  rw [show Maps.size (DataW.map es) = l.length from by rw [Maps.size_eq, hp.length_eq]; simp [enc]]
  exact hK
/-- The same, of a guarded operation whose guard holds. -/
theorem wpList_len_g (hw : Region.wanted o (yielded ops a.tmps) = true) (m : Operand) (t : TypeId) (hop : o.op = Op.call { callee := Callee.builtin Builtin.len, args := #[m], argTypes := #[t] })
    (k e : TypeId) (ht : P.underlying t = some (.map k e)) (b : Nat) (l : AL) (hm : a.eval m = .map (some b)) (hown : MapIs w P k b l)
    (hK : wpList P ops Q rest (a.put o.dst (.int .i64 l.length)) w) : wpList P ops Q (o :: rest) a w := by
  refine wpList_step fun K' hK' => ?_
  rw [if_pos hw]
  obtain ⟨hk, es, hown, hp⟩ := hown
  unfold Oper.wp
  have e1 : Maps.size (DataW.map es) = l.length := by rw [Maps.size_eq, hp.length_eq]; simp [enc]
  simp [execOp, hop, resolve, invoke, builtin, hm, hown.len ht o.type, Result.andThen, e1]
  exact hK' _ _ hK
/-- 'delete(m, k)'. -/
theorem wpList_del (hg : o.guard = none) (m x : Operand) (t k : TypeId) (hop : o.op = Op.call { callee := Callee.builtin Builtin.delete, args := #[m, x], argTypes := #[t, k] })
    (e : TypeId) (K : Keyed P k) (ht : P.underlying t = some (.map k e)) (b : Nat) (l : AL)
    (hm : a.eval m = .map (some b)) (hown : MapIs w P k b l) (key : Value) (kl : Lit) (hx : a.eval x = key) (hkey : keyOf P k key = some kl)
    (hK : ∀ w', MapIs w' P k b (delA l kl) → w.mapTurned w' b → wpList P ops Q rest (a.put o.dst (.tuple #[])) w') : wpList P ops Q (o :: rest) a w := by
  obtain ⟨hk, es, hown, hp⟩ := hown
  refine wpList_delete_own w hg m x t k hop e K ht RV b l.length (.map es) hm hown key kl hx hkey fun w' h1 h2 => hK w' ⟨⟨hk.1.filter _, fun p hp => hk.2 p (List.mem_filter.1 hp).1⟩, es.filter fun p => !p.1.sameKey kl, ?_, ?_⟩ h2
  · obtain ⟨es0, clock, hb, F, hs, hD⟩ := h1
    refine ⟨es0, clock, hb, F, ?_, hD⟩
    have e1 : es0.size = ((es0.toList.map (WideElems.rg P k RV)).foldr DataW.insert []).length := by rw [length_sorted]; simp
    rw [e1]
    have e2 := congrArg (fun d => match d with | .map es => es.length | _ => 0) hD
    simp only [DataW.del] at e2
    rw [← e2]
    have e3 := (hp.filter (fun p => !p.1.sameKey kl)).length_eq
    rw [e3]
    simp only [delA, enc, List.filter_map, List.length_map]
    exact Nat.le_refl _
  · refine (hp.filter _).trans ?_
    simp only [delA, enc, List.filter_map]
    exact List.Perm.refl _
end

/-! ### range -/
/-- A range over the map is under way: 'left' says which keys are still to come. -/
def Ranges (w : World) (P : Program) (k : TypeId) (b r : Nat) (l : AL) (left : Lit → Bool) (cnt : Nat) : Prop :=
  Keys l ∧ ∃ es, w.ranges P k RV b r l.length (.map es) left cnt ∧ es.Perm (enc l)
section
variable {P : Program} {k : TypeId} {w : World} {b r : Nat} {l : AL} {left : Lit → Bool} {cnt : Nat}
theorem Ranges.owns (h : Ranges w P k b r l left cnt) : MapIs w P k b l := by
  obtain ⟨hk, es, h, hp⟩ := h
  exact ⟨hk, es, h.owns, hp⟩
theorem Ranges.of_heap {w' : World} (h : Ranges w P k b r l left cnt) (hw : w'.heap = w.heap) : Ranges w' P k b r l left cnt := by
  obtain ⟨hk, es, h, hp⟩ := h
  refine ⟨hk, es, ?_, hp⟩
  unfold World.ranges at h ⊢
  rw [hw]; exact h
theorem Ranges.left_eq (h : Ranges w P k b r l left cnt) : w.rangeLeft b r = cnt := by
  obtain ⟨hk, es, h, hp⟩ := h
  exact h.left_eq
theorem Ranges.kept {w' : World} {row : Option Nat} (h : Ranges w P k b r l left cnt) (hg : w.grownBy w' row) (hb' : some b ≠ row) (hr' : some r ≠ row) : Ranges w' P k b r l left cnt := by
  obtain ⟨hk, es, h, hp⟩ := h
  exact ⟨hk, es, h.kept hg hb' hr', hp⟩
variable {ops : Array Oper} {rest : List Oper} {o : Oper} {a : Act} {Q : Exit → Act → World → Prop}
theorem wpList_range (hg : o.guard = none) (m : Operand) (t : TypeId) (hop : o.op = Op.range t m) (k e : TypeId) (K : Keyed P k) (ht : P.underlying t = some (.map k e)) (b : Nat) (l : AL)
    (hm : a.eval m = .map (some b)) (hown : MapIs w P k b l)
    (hK : ∀ w' (left : Lit → Bool), (∀ p ∈ l, left p.1 = true) → (∀ kl, left kl = true → ∃ p ∈ l, p.1 = kl) → Ranges w' P k b w.heap.size l left l.length → w.grownBy w' none → w'.heap.size = w.heap.size + 1 → wpList P ops Q rest (a.put o.dst (.pointer (some ⟨w.heap.size, 0, none⟩))) w') :
    wpList P ops Q (o :: rest) a w := by
  obtain ⟨hk, es, hown, hp⟩ := hown
  refine wpList_range_own w hg m t hop k e K ht RV b l.length (.map es) hm hown fun w' h1 h2 h3 => hK w' (Maps.has (.map es)) (fun p hpl => ?_) (fun kl h => ?_) ⟨hk, es, ?_, hp⟩ h2 h3
  · rw [enc_has hk hp, find_mem hk hpl]; rfl
  · rw [enc_has hk hp] at h
    obtain ⟨v, hv⟩ := Option.isSome_iff_exists.1 h
    obtain ⟨p, hp, e, _⟩ := find_some hv
    exact ⟨p, hp, e⟩
  · rw [show Maps.size (DataW.map es) = l.length from by rw [Maps.size_eq, hp.length_eq]; simp [enc]] at h1
    exact h1
/-- The step, at keys of an integer kind. -/
theorem wpList_next_int (hg : o.guard = none) (it : Operand) (hop : o.op = Op.next it false) (k : TypeId) (q : IntKind) (K : Keyed P k) (hk0 : P.underlying k = some (.int q)) (b r : Nat) (l : AL) (left : Lit → Bool) (cnt : Nat)
    (hit : a.eval it = .pointer (some ⟨r, 0, none⟩)) (h : Ranges w P k b r l left cnt)
    (hDone : (∀ kl, left kl = false) → wpList P ops Q rest (a.put o.dst (.tuple #[.bool false])) w)
    (hMore : ∀ (x : Int) (c : Value) (w' : World) (cnt' : Nat), (Lit.int q x).wf = true → (Lit.int q x, c) ∈ l → left (.int q x) = true → Ranges w' P k b r l (fun z => left z && !z.sameKey (.int q x)) cnt' → cnt' < cnt →
      w.grownBy w' (some r) → w'.heap.size = w.heap.size → (Instr.entry (.pointer (some ⟨r, 0, none⟩))).run P w' = .ok (.tuple #[.int q x, c]) w' → wpList P ops Q rest (a.put o.dst (.tuple #[.bool true, .int q x, c])) w') :
    wpList P ops Q (o :: rest) a w := by
  obtain ⟨hk, es, h, hp⟩ := h
  refine wpList_next_ranges w hg it hop k K RV (Value.int q) (fun c : Value => c) (fun key kl hkey => by obtain ⟨x, rfl, _⟩ := Maps.keyOf_int_inv hk0 hkey; exact ⟨x, rfl⟩) (fun v y _ => ⟨v, rfl⟩) b r l.length (.map es) left cnt hit h (fun _ h2 => hDone h2)
    fun x c kl y w' cnt' hkey hlk hv hat hrg hlt hgr hsz hen => ?_
  obtain ⟨x', ex, rfl, hwx⟩ := Maps.keyOf_int_inv hk0 hkey
  cases ex
  have hy : y = (.held c, []) := (Option.some.inj hv).symm
  subst hy
  have hf := hat .nil
  rw [enc_at hk hp] at hf
  have hm : (Lit.int q x, c) ∈ l := by
    cases hf' : find l (.int q x) with
    | none => rw [hf'] at hf; cases hf
    | some v =>
      rw [hf'] at hf
      cases hf
      obtain ⟨p, hp', e1, e2⟩ := find_some hf'
      rw [← e1, ← e2]; exact hp'
  exact hMore x c w' cnt' hwx hm hlk ⟨hk, es, hrg, hp⟩ hlt hgr hsz hen
/-- How many are still to come that f takes: at each step one goes. -/
theorem rem_step (f : Lit × Value → Bool) {l : AL} (hk : Keys l) {p : Lit × Value} (hp : p ∈ l) {left : Lit → Bool} (hl : left p.1 = true) :
    (l.filter fun x => left x.1 && f x).length = (l.filter fun x => (left x.1 && !x.1.sameKey p.1) && f x).length + (if f p then 1 else 0) := by
  induction l with
  | nil => simp at hp
  | cons y l ih =>
    have hk' : Keys l := ⟨hk.1.of_cons, fun p hp => hk.2 p (by simp [hp])⟩
    rcases List.mem_cons.1 hp with rfl | hp
    · have hrest : l.filter (fun x => left x.1 && f x) = l.filter (fun x => (left x.1 && !x.1.sameKey p.1) && f x) := by
        apply List.filter_congr
        intro x hx
        have hne := List.rel_of_pairwise_cons hk.1 hx
        rw [sameKey_ne (Ne.symm hne)]; simp
      simp only [List.filter_cons, hl, Bool.true_and, sameKey_self (hk.2 p (by simp)), Bool.not_true, Bool.false_and, Bool.false_eq_true, if_false, hrest]
      split <;> simp
    · have hne := List.rel_of_pairwise_cons hk.1 hp
      have := ih hk' hp
      simp only [List.filter_cons, sameKey_ne hne, Bool.not_false, Bool.and_true]
      by_cases hy : (left y.1 && f y) = true
      · simp only [hy, if_true, List.length_cons, this]; omega
      · simp only [hy, Bool.false_eq_true, if_false]; exact this
end
end Go.Proofs.YtooplackonnemaaDoor.MapsL
