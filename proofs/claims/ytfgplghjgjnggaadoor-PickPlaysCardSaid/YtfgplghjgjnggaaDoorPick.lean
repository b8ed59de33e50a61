/-
  Contracts of package pick over this seat's translation: New, least, Add, get, Drop, Want, Next, Sent, for every state.
  Conditions: the receiver's cell, the map's block, each entry's own block.
-/
import Derived.Test.YtfgplghjgjnggaaDoorShelf
import Derived.Test.YtfgplghjgjnggaaDoorMaps
import Derived.Test.YtfgplghjgjnggaaDoorMod
import Derived.WalkSpells
import Derived.WalkLawsBesides
import Derived.Deep.QuietTactic
import Derived.BigQuiet
import Derived.Lib.Hide
namespace Go.Proofs.YtfgplghjgjnggaaDoor.PickC
open Go.RowKit MapsL ModL
set_option linter.unusedSimpArgs false
set_option linter.unusedVariables false

theorem law : Maps.Keyed Tryd.prog 3 := Maps.int_keyed Tryd.underlying3
theorem zeroE (w : World) : (zeroValue 72).run Tryd.prog w = .ok (.pointer none) w := by kernel_rfl

/-- One who may want: its number, its block, its weight, its score, whether it wants. -/
structure Ent where
  id : Int
  a : Nat
  wt : Int
  sc : Int
  wants : Bool
def encP (l : List Ent) : AL := l.map fun e => (.int .i64 e.id, .pointer (some ⟨e.a, 0, none⟩))
structure EntAt (w : World) (b m : Nat) (e : Ent) : Prop where
  c0 : w.cell? ⟨e.a, 0, none⟩ = some (.int .i64 e.wt)
  c1 : w.cell? ⟨e.a, 1, none⟩ = some (.int .i64 e.sc)
  c2 : w.cell? ⟨e.a, 2, none⟩ = some (.bool e.wants)
  f1 : w.frozen? ⟨e.a, 1, none⟩ = false
  f2 : w.frozen? ⟨e.a, 2, none⟩ = false
  nb : e.a ≠ b
  nm : e.a ≠ m
  hw : 1 ≤ e.wt ∧ e.wt ≤ 256
  hs : 0 ≤ e.sc ∧ e.sc ≤ 4611686018427387904
  hi : 1 ≤ e.id ∧ e.id ≤ 2147483647
structure IsPick (w : World) (b m : Nat) (l : List Ent) : Prop where
  map : MapIs w Tryd.prog 3 m (encP l)
  c0 : w.cell? ⟨b, 0, none⟩ = some (.map (some m))
  ne : b ≠ m
  ents : ∀ e ∈ l, EntAt w b m e
  apart : l.Pairwise fun x y => x.a ≠ y.a

theorem EntAt.lt {w : World} {b m : Nat} {e : Ent} (h : EntAt w b m e) : e.a < w.heap.size := block_lt_of_cell h.c0
theorem EntAt.of_block {w w' : World} {b m : Nat} {e : Ent} (h : EntAt w b m e) (hb : w'.heap[e.a]? = w.heap[e.a]?) : EntAt w' b m e :=
  ⟨(World.cell?_of_block (a := ⟨e.a, 0, none⟩) hb).trans h.c0, (World.cell?_of_block (a := ⟨e.a, 1, none⟩) hb).trans h.c1, (World.cell?_of_block (a := ⟨e.a, 2, none⟩) hb).trans h.c2,
    (World.frozen?_of_block (a := ⟨e.a, 1, none⟩) hb).trans h.f1, (World.frozen?_of_block (a := ⟨e.a, 2, none⟩) hb).trans h.f2, h.nb, h.nm, h.hw, h.hs, h.hi⟩
theorem IsPick.lt {w : World} {b m : Nat} {l : List Ent} (h : IsPick w b m l) : b < w.heap.size ∧ m < w.heap.size := ⟨block_lt_of_cell h.c0, h.map.lt⟩
theorem IsPick.below {w w' : World} {b m : Nat} {l : List Ent} (h : IsPick w b m l) (hB : Below w.heap.size w w') : IsPick w' b m l :=
  ⟨h.map.below hB h.lt.2, (hB.cell (p := ⟨b, 0, none⟩) h.lt.1).trans h.c0, h.ne, fun e he => (h.ents e he).of_block (hB.block _ (h.ents e he).lt), h.apart⟩
theorem below_drewN {B : Nat} {w w' : World} (h : Below B w w') (n : Nat) : Below B w (w'.drewN n) := ⟨h.os, h.tape, h.output, h.size, h.block⟩
theorem new_any (w : World) : Calls Tryd.prog 5 #[] w fun e w' => e = .returned (.pointer (some ⟨w.heap.size + 1, 0, none⟩)) ∧ IsPick w' (w.heap.size + 1) w.heap.size [] ∧ Below w.heap.size w w' ∧ w'.heap.size = w.heap.size + 2 := by
  have hmm := @run_makeMap Tryd.prog
  go_enter Tryd.func5, Tryd.ntmps5
  go_wp2
  go_ret
  exact ⟨rfl, ⟨(MapIs.made w _ _).alloc _, by simp, by omega, by simp, List.Pairwise.nil⟩, ((Below.refl _ _).alloc (Nat.le_refl _) _).alloc (by simp) _, by simp⟩
/-- Whose turn comes ahead. -/
def ahead (x y : Ent) : Prop := x.sc < y.sc ∨ (x.sc = y.sc ∧ x.id < y.id)
/-- Of those that V holds of: whose turn it is. -/
def Best (V : Ent → Prop) (l : List Ent) (id sc : Int) (ok : Bool) : Prop :=
  (ok = false ∧ id = 0 ∧ sc = 0 ∧ ∀ e ∈ l, V e → e.wants = false) ∨
  (ok = true ∧ ∃ e ∈ l, V e ∧ e.wants = true ∧ e.id = id ∧ e.sc = sc ∧ ∀ y ∈ l, V y → y.wants = true → ¬ ahead y e)
theorem Best.mono {V W : Ent → Prop} {l : List Ent} {id sc : Int} {ok : Bool} (h : Best V l id sc ok) (hVW : ∀ e ∈ l, V e ↔ W e) : Best W l id sc ok := by
  rcases h with ⟨h1, h2, h3, h4⟩ | ⟨h1, e, he, hV, h2, h3, h4, h5⟩
  · exact .inl ⟨h1, h2, h3, fun e he hW => h4 e he ((hVW e he).2 hW)⟩
  · exact .inr ⟨h1, e, he, (hVW e he).1 hV, h2, h3, h4, fun y hy hW => h5 y hy ((hVW y hy).2 hW)⟩
/-- One more is looked at, and does not come ahead. -/
theorem Best.skip {V : Ent → Prop} {l : List Ent} {id sc : Int} {ok : Bool} (h : Best V l id sc ok) (x : Ent) (hx : x.wants = false ∨ (ok = true ∧ ¬ (x.sc < sc ∨ (x.sc = sc ∧ x.id < id)))) : Best (fun e => V e ∨ e = x) l id sc ok := by
  rcases h with ⟨h1, h2, h3, h4⟩ | ⟨h1, e, he, hV, h2, h3, h4, h5⟩
  · refine .inl ⟨h1, h2, h3, fun e he hW => ?_⟩
    rcases hW with hW | rfl
    · exact h4 e he hW
    · rcases hx with hx | ⟨hx, _⟩
      · exact hx
      · rw [h1] at hx; cases hx
  · refine .inr ⟨h1, e, he, .inl hV, h2, h3, h4, fun y hy hW hwy => ?_⟩
    rcases hW with hW | rfl
    · exact h5 y hy hW hwy
    · rcases hx with hx | ⟨_, hx⟩
      · rw [hx] at hwy; cases hwy
      · unfold ahead; rw [h3, h4]; exact hx
/-- One more is looked at, and comes ahead. -/
theorem Best.take {V : Ent → Prop} {l : List Ent} {id sc : Int} {ok : Bool} (h : Best V l id sc ok) (x : Ent) (hxl : x ∈ l) (hw : x.wants = true) (hx : ok = false ∨ x.sc < sc ∨ (x.sc = sc ∧ x.id < id)) : Best (fun e => V e ∨ e = x) l x.id x.sc true := by
  refine .inr ⟨rfl, x, hxl, .inr rfl, hw, rfl, rfl, fun y hy hW hwy => ?_⟩
  rcases hW with hW | rfl
  · rcases h with ⟨h1, h2, h3, h4⟩ | ⟨h1, e, he, hV, h2, h3, h4, h5⟩
    · rw [h4 y hy hW] at hwy; cases hwy
    · have h6 := h5 y hy hW hwy
      rcases hx with hx | hx
      · rw [h1] at hx; cases hx
      · unfold ahead at h6 ⊢; omega
  · unfold ahead; omega
theorem encP_mem {l : List Ent} {x : Int} {c : Value} (h : (Lit.int .i64 x, c) ∈ encP l) : ∃ e ∈ l, e.id = x ∧ c = .pointer (some ⟨e.a, 0, none⟩) := by
  obtain ⟨e, he, h⟩ := List.mem_map.1 h
  cases h
  exact ⟨e, he, rfl, rfl⟩
theorem ids_inj {l : List Ent} (hk : Keys (encP l)) {x y : Ent} (hx : x ∈ l) (hy : y ∈ l) (h : x.id = y.id) : x = y := by
  have hp : l.Pairwise fun x y => x.id ≠ y.id := by
    have := hk.1
    unfold encP at this
    rw [List.pairwise_map] at this
    exact this.imp fun h e => h (by simp [e])
  induction l with
  | nil => cases hx
  | cons z l ih =>
    have hz := List.pairwise_cons.1 hp
    rcases List.mem_cons.1 hx with rfl | hx
    · rcases List.mem_cons.1 hy with rfl | hy
      · rfl
      · exact absurd h (hz.1 y hy)
    · rcases List.mem_cons.1 hy with e | hy
      · exact absurd (by rw [← e]; exact h.symm) (hz.1 x hx)
      · exact ih ⟨(List.pairwise_cons.1 hk.1).2, fun p hp => hk.2 p (List.mem_cons_of_mem _ hp)⟩ hx hy hz.2
set_option maxRecDepth 100000 in
set_option maxHeartbeats 4000000 in
theorem least_any {b m : Nat} {l : List Ent} {w : World} (h : IsPick w b m l) :
    Calls Tryd.prog 26 #[.pointer (some ⟨b, 0, none⟩)] w fun e w' => ∃ id sc ok, e = .returned (.tuple #[.int .i64 id, .int .i64 sc, .bool ok]) ∧ Best (fun _ => True) l id sc ok ∧ Below w.heap.size w w' := by
  have H := Lib.hid h
  have hc0 := h.c0
  have hlt := h.lt
  have HK := Lib.hid h.map.1
  clear h
  go_enter Tryd.func26, Tryd.ntmps26
  go_wp2_with (first
    | (refine wpList_range rfl _ 67 rfl 3 72 law Tryd.underlying67 m (encP l) rfl H.out.map ?_; intro w1 left hl1 hl2 hrg0 hg0 hs0; have HRG := Lib.hid hrg0; have HG0 := Lib.hid hg0; have HL1 := Lib.hid hl1; have HL2 := Lib.hid hl2; have HS0 := Lib.hid hs0; clear hrg0 hg0 hl1 hl2 hs0)
    | go_in)
  go_frame
  go_loopw [2, 3, 4] (fun a1 a2 a3 wr => ∃ (left : Lit → Bool) (cnt : Nat) (id sc : Int) (ok : Bool), a1 = .int .i64 id ∧ a2 = .int .i64 sc ∧ a3 = .bool ok ∧ Ranges wr Tryd.prog 3 m w.heap.size (encP l) left cnt ∧ Hid (Best (fun e => left (.int .i64 e.id) = false) l id sc ok) ∧ Below w.heap.size w wr)
    (fun _ _ _ wr => wr.rangeLeft m w.heap.size)
  case atStart =>
    refine ⟨left, _, 0, 0, false, rfl, rfl, rfl, HRG.out, .inl ⟨rfl, rfl, rfl, fun e he hV => ?_⟩, (Below.refl _ _).grown HG0.out (Nat.le_refl _) (by simp)⟩
    have := HL1.out _ (List.mem_map.2 ⟨e, he, rfl⟩)
    simp only at this hV
    rw [this] at hV; cases hV
  case round =>
    obtain ⟨left, cnt, id, sc, ok, rfl, rfl, rfl, hrg, HBEST, hB⟩ := hrel
    have HBo := Lib.hid hB
    have HRo := Lib.hid hrg
    have hszr := hB.size
    clear hB hrg
    go_wp2_with (first
      | (at_next; refine wpList_next_int rfl _ rfl 3 .i64 law Tryd.underlying3 m w.heap.size (encP l) _ _ rfl HRo.out ?_ ?_)
      | go_in)
    · intro hd
      have HD := Lib.hid hd
      clear hd
      go_wp2
      go_ret3
      exact ⟨id, sc, ok, rfl, HBEST.out.mono fun e he => by simp [HD.out], HBo.out⟩
    · intro x c w1 cnt1 hwx hmem hlx hrg1 hlt1 hg1 hs1 hen
      obtain ⟨e0, he0, rfl, rfl⟩ := encP_mem hmem
      have hB1 := HBo.out.grown hg1 hszr (fun j hj => by cases hj; exact Nat.le_refl _)
      have hE := (H.out.below hB1).ents e0 he0
      have k1 := hE.c1
      have k2 := hE.c2
      have hV : ∀ e ∈ l, ((left (.int .i64 e.id) && !(Lit.int .i64 e.id).sameKey (.int .i64 e0.id)) = false ↔ (left (.int .i64 e.id) = false ∨ e = e0)) := fun e he => by
        have hsk : (Lit.int .i64 e.id).sameKey (.int .i64 e0.id) = decide (e.id = e0.id) := by simp [Lit.sameKey]
        rw [hsk]
        by_cases hee : e.id = e0.id
        · have := ids_inj HK.out he he0 hee
          simp [hee, this]
        · have hne : e ≠ e0 := fun h => hee (by rw [h])
          simp [hee, hne]
      have HV := Lib.hid hV
      have HRG1 := Lib.hid hrg1
      have HB1 := Lib.hid hB1
      have HLT := Lib.hid hlt1
      clear hV hrg1 hB1 hlt1 hg1 hs1 hmem hlx hE hwx
      obtain ⟨eid, ea, ewt, esc, ew⟩ := e0
      simp only at k1 k2 HRG1
      have hsk : ew = false ∨ (ew = true ∧ ok = true ∧ sc < esc) ∨ (ew = true ∧ ok = true ∧ esc = sc ∧ id ≤ eid) ∨ (ew = true ∧ ok = false) ∨ (ew = true ∧ ok = true ∧ esc < sc) ∨ (ew = true ∧ ok = true ∧ esc = sc ∧ eid < id) := by
        cases ew <;> cases ok <;> simp <;> omega
      rcases hsk with rfl | ⟨rfl, rfl, h1⟩ | ⟨rfl, rfl, rfl, h1⟩ | ⟨rfl, rfl⟩ | ⟨rfl, rfl, h1⟩ | ⟨rfl, rfl, rfl, h1⟩
      · go_wp2
        go_roundw
        case rel => exact ⟨_, cnt1, id, sc, ok, rfl, rfl, rfl, HRG1.out, (HBEST.out.skip _ (.inl rfl)).mono fun e he => (HV.out e he).symm, HB1.out⟩
        case measure => rw [HRG1.out.left_eq, HRo.out.left_eq]; exact HLT.out
      · have hne : (esc == sc) = false := by rw [beq_eq_false_iff_ne]; omega
        go_wp2
        go_roundw
        case rel => exact ⟨_, cnt1, id, sc, true, rfl, rfl, rfl, HRG1.out, (HBEST.out.skip _ (.inr ⟨rfl, by simp only; omega⟩)).mono fun e he => (HV.out e he).symm, HB1.out⟩
        case measure => rw [HRG1.out.left_eq, HRo.out.left_eq]; exact HLT.out
      · go_wp2
        go_roundw
        case rel => exact ⟨_, cnt1, id, esc, true, rfl, rfl, rfl, HRG1.out, (HBEST.out.skip _ (.inr ⟨rfl, by simp only; omega⟩)).mono fun e he => (HV.out e he).symm, HB1.out⟩
        case measure => rw [HRG1.out.left_eq, HRo.out.left_eq]; exact HLT.out
      · go_wp2
        go_quiet (fail)
        go_wp2
        go_roundw
        case rel => exact ⟨_, cnt1, eid, esc, true, rfl, rfl, rfl, HRG1.out.of_heap rfl, (HBEST.out.take _ he0 rfl (.inl rfl)).mono fun e he => (HV.out e he).symm, below_drewN HB1.out _⟩
        case measure => first | (rw [HRG1.out.left_eq, HRo.out.left_eq]; exact HLT.out) | (show w1.rangeLeft m w.heap.size < _; rw [HRG1.out.left_eq, HRo.out.left_eq]; exact HLT.out)
      · go_wp2
        go_quiet (fail)
        go_wp2
        go_roundw
        case rel => exact ⟨_, cnt1, eid, esc, true, rfl, rfl, rfl, HRG1.out.of_heap rfl, (HBEST.out.take _ he0 rfl (.inr (.inl h1))).mono fun e he => (HV.out e he).symm, below_drewN HB1.out _⟩
        case measure => first | (rw [HRG1.out.left_eq, HRo.out.left_eq]; exact HLT.out) | (show w1.rangeLeft m w.heap.size < _; rw [HRG1.out.left_eq, HRo.out.left_eq]; exact HLT.out)
      · go_wp2
        go_quiet (fail)
        go_wp2
        go_roundw
        case rel => exact ⟨_, cnt1, eid, esc, true, rfl, rfl, rfl, HRG1.out.of_heap rfl, (HBEST.out.take _ he0 rfl (.inr (.inr ⟨rfl, h1⟩))).mono fun e he => (HV.out e he).symm, below_drewN HB1.out _⟩
        case measure => first | (rw [HRG1.out.left_eq, HRo.out.left_eq]; exact HLT.out) | (show w1.rangeLeft m w.heap.size < _; rw [HRG1.out.left_eq, HRo.out.left_eq]; exact HLT.out)
/-- The entry of a number. -/
def findE (l : List Ent) (id : Int) : Option Ent := l.find? fun e => e.id == id
theorem find_encP (l : List Ent) (id : Int) : find (encP l) (.int .i64 id) = (findE l id).map fun e => .pointer (some ⟨e.a, 0, none⟩) := by
  induction l with
  | nil => rfl
  | cons p l ih =>
    have e : encP (p :: l) = (.int .i64 p.id, .pointer (some ⟨p.a, 0, none⟩)) :: encP l := rfl
    rw [e, find_cons, ih]
    simp only [findE, List.find?_cons, Lit.sameKey, true_and]
    by_cases h : p.id = id
    · simp [h]
    · have h2 : (p.id == id) = false := by simpa using h
      simp only [h2, h, decide_false, Bool.false_eq_true, if_false]
theorem findE_some {l : List Ent} {id : Int} {e : Ent} (h : findE l id = some e) : e ∈ l ∧ e.id = id := by
  have h1 := List.mem_of_find?_eq_some h
  have h2 := List.find?_some h
  exact ⟨h1, by simpa using h2⟩
theorem findE_mem {l : List Ent} (hk : Keys (encP l)) {e : Ent} (he : e ∈ l) : findE l e.id = some e := by
  cases h : findE l e.id with
  | none =>
    have := List.find?_eq_none.1 h e he
    simp at this
  | some x =>
    obtain ⟨h1, h2⟩ := findE_some h
    rw [ids_inj hk h1 he h2]
theorem findE_none {l : List Ent} {id : Int} (h : findE l id = none) : ∀ e ∈ l, e.id ≠ id := by
  intro e he
  have := List.find?_eq_none.1 h e he
  simpa using this
theorem get_some {b m : Nat} {l : List Ent} {w : World} (h : IsPick w b m l) (id : Int) (hid : -9223372036854775808 ≤ id ∧ id ≤ 9223372036854775807) (x : Ent) (hx : findE l id = some x) :
    Calls Tryd.prog 28 #[.pointer (some ⟨b, 0, none⟩), .int .i64 id] w fun e w' => e = .returned (.tuple #[.pointer (some ⟨x.a, 0, none⟩), .nilIface]) ∧ w = w' := by
  have hc0 := h.c0
  have HM := Lib.hid h.map
  have hkey := Maps.keyOf_int_mk Tryd.underlying3 (WalkArith.wf_i64 hid)
  have HKEY := Lib.hid hkey
  have hff : find (encP l) (.int .i64 id) = some (.pointer (some ⟨x.a, 0, none⟩)) := by rw [find_encP, hx]; rfl
  clear hkey h hx
  go_enter Tryd.func28, Tryd.ntmps28
  go_wp2_with (first
    | (at_lookup; refine wpList_look_ok rfl _ _ 67 rfl 3 72 law Tryd.underlying67 _ (zeroE _) m (encP l) rfl HM.out _ _ rfl HKEY.out ?_; rw [hff])
    | go_in)
  go_ret2
  exact ⟨rfl, rfl⟩
theorem get_none {b m : Nat} {l : List Ent} {w : World} (h : IsPick w b m l) (id : Int) (hid : -9223372036854775808 ≤ id ∧ id ≤ 9223372036854775807) (hx : findE l id = none) :
    Calls Tryd.prog 28 #[.pointer (some ⟨b, 0, none⟩), .int .i64 id] w fun e w' => e = .returned (.tuple #[.pointer none, .iface 70 (.int .i64 5)]) ∧ w = w' := by
  have hc0 := h.c0
  have HM := Lib.hid h.map
  have hkey := Maps.keyOf_int_mk Tryd.underlying3 (WalkArith.wf_i64 hid)
  have HKEY := Lib.hid hkey
  have hff : find (encP l) (.int .i64 id) = none := by rw [find_encP, hx]; rfl
  clear hkey h hx
  go_enter Tryd.func28, Tryd.ntmps28
  go_wp2_with (first
    | (at_lookup; refine wpList_look_ok rfl _ _ 67 rfl 3 72 law Tryd.underlying67 _ (zeroE _) m (encP l) rfl HM.out _ _ rfl HKEY.out ?_; rw [hff])
    | go_in)
  go_ret2
  exact ⟨rfl, rfl⟩
theorem next_any {b m : Nat} {l : List Ent} {w : World} (h : IsPick w b m l) :
    Calls Tryd.prog 15 #[.pointer (some ⟨b, 0, none⟩)] w fun e w' => ∃ id sc ok, e = .returned (.tuple #[.int .i64 id, .bool ok]) ∧ Best (fun _ => True) l id sc ok ∧ Below w.heap.size w w' := by
  have HL := Lib.hid (least_any h)
  clear h
  go_enter Tryd.func15, Tryd.ntmps15
  go_wp2_with fail
  refine HL.out.mono ?_
  rintro e w' ⟨id, sc, ok, rfl, hb, hB⟩
  have HH := Lib.hid (And.intro hb hB)
  clear hb hB
  go_wp2
  go_ret2
  exact ⟨id, sc, ok, rfl, HH.out.1, HH.out.2⟩
theorem putA_none {l : List Ent} {id : Int} (h : findE l id = none) (x : Ent) (hx : x.id = id) : putA (encP l) (.int .i64 id) (.pointer (some ⟨x.a, 0, none⟩)) = encP (l ++ [x]) := by
  subst hx
  induction l with
  | nil => rfl
  | cons p l ih =>
    have hp : p.id ≠ x.id := findE_none h p (by simp)
    have hl : findE l x.id = none := by
      unfold findE at h ⊢
      rw [List.find?_cons] at h
      have : (p.id == x.id) = false := by simpa using hp
      simpa [this] using h
    have e : encP (p :: l) = (.int .i64 p.id, .pointer (some ⟨p.a, 0, none⟩)) :: encP l := rfl
    rw [e, putA]
    have hs : (Lit.int .i64 p.id).sameKey (.int .i64 x.id) = false := by simp [Lit.sameKey, hp]
    simp only [hs, Bool.false_eq_true, if_false]
    rw [ih hl]; rfl
theorem IsPick.add {w w' : World} {b m : Nat} {l : List Ent} (h : IsPick w b m l) (x : Ent) (hm : MapIs w' Tryd.prog 3 m (encP (l ++ [x]))) (hM : ∀ k, k < w.heap.size → k ≠ m → w'.heap[k]? = w.heap[k]?) (hx : EntAt w' b m x) (hnew : w.heap.size ≤ x.a) : IsPick w' b m (l ++ [x]) := by
  have hlt := h.lt
  refine ⟨hm, (World.cell?_of_block (a := ⟨b, 0, none⟩) (hM b hlt.1 h.ne)).trans h.c0, h.ne, fun e he => ?_, ?_⟩
  · rcases List.mem_append.1 he with he | he
    · have := h.ents e he
      exact this.of_block (hM _ this.lt this.nm)
    · rw [List.mem_singleton.1 he]; exact hx
  · rw [List.pairwise_append]
    refine ⟨h.apart, by simp, fun e he y hy => ?_⟩
    rw [List.mem_singleton.1 hy]
    have := (h.ents e he).lt
    omega
def okAdd (id wt : Int) : Prop := 1 ≤ id ∧ id ≤ 2147483647 ∧ 1 ≤ wt ∧ wt ≤ 256
set_option maxRecDepth 100000 in
set_option maxHeartbeats 2000000 in
theorem add_bad {b m : Nat} {l : List Ent} {w : World} (h : IsPick w b m l) (id wt : Int) (hid : -9223372036854775808 ≤ id ∧ id ≤ 9223372036854775807) (hb : ¬ okAdd id wt) :
    Calls Tryd.prog 7 #[.pointer (some ⟨b, 0, none⟩), .int .i64 id, .int .i64 wt] w fun e w' => e = .returned (.iface 70 (.int .i64 1)) ∧ w = w' := by
  have hc0 := h.c0
  have HM := Lib.hid h.map
  have hkey := Maps.keyOf_int_mk Tryd.underlying3 (WalkArith.wf_i64 hid)
  have HKEY := Lib.hid hkey
  obtain ⟨hid1, hid2⟩ := hid
  have hb' : id < 1 ∨ (1 ≤ id ∧ 2147483647 < id) ∨ (1 ≤ id ∧ id ≤ 2147483647 ∧ wt < 1) ∨ (1 ≤ id ∧ id ≤ 2147483647 ∧ 1 ≤ wt ∧ 256 < wt) := by unfold okAdd at hb; omega
  have HF := Lib.hid (find_encP l id)
  clear hkey h hb
  cases hx : findE l id
  all_goals
    rw [hx] at HF
    clear hx
    rcases hb' with h1 | ⟨h1, h2⟩ | ⟨h1, h2, h3⟩ | ⟨h1, h2, h3, h4⟩
  all_goals
    go_enter Tryd.func7, Tryd.ntmps7
    go_wp2_with (first
      | (at_lookup; refine wpList_look_ok rfl _ _ 67 rfl 3 72 law Tryd.underlying67 _ (zeroE _) m (encP l) rfl HM.out _ _ rfl HKEY.out ?_; rw [HF.out])
      | go_in)
    go_ret
    exact ⟨rfl, rfl⟩
set_option maxRecDepth 100000 in
set_option maxHeartbeats 2000000 in
theorem add_clash {b m : Nat} {l : List Ent} {w : World} (h : IsPick w b m l) (id wt : Int) (hb : okAdd id wt) (x : Ent) (hx : findE l id = some x) :
    Calls Tryd.prog 7 #[.pointer (some ⟨b, 0, none⟩), .int .i64 id, .int .i64 wt] w fun e w' => e = .returned (.iface 70 (.int .i64 7)) ∧ w = w' := by
  have hc0 := h.c0
  have HM := Lib.hid h.map
  obtain ⟨h1, h2, h3, h4⟩ := hb
  have hkey := Maps.keyOf_int_mk Tryd.underlying3 (WalkArith.wf_i64 (n := id) (by omega))
  have HKEY := Lib.hid hkey
  have HF := Lib.hid (find_encP l id)
  rw [hx] at HF
  clear hkey h hx
  go_enter Tryd.func7, Tryd.ntmps7
  go_wp2_with (first
    | (at_lookup; refine wpList_look_ok rfl _ _ 67 rfl 3 72 law Tryd.underlying67 _ (zeroE _) m (encP l) rfl HM.out _ _ rfl HKEY.out ?_; rw [HF.out])
    | go_in)
  go_ret
  exact ⟨rfl, rfl⟩
theorem encP_len (l : List Ent) : (encP l).length = l.length := by simp [encP]
set_option maxRecDepth 100000 in
set_option maxHeartbeats 2000000 in
theorem add_full {b m : Nat} {l : List Ent} {w : World} (h : IsPick w b m l) (id wt : Int) (hb : okAdd id wt) (hx : findE l id = none) (hl : 100 ≤ l.length) (hl2 : l.length ≤ 1000000) :
    Calls Tryd.prog 7 #[.pointer (some ⟨b, 0, none⟩), .int .i64 id, .int .i64 wt] w fun e w' => e = .returned (.iface 70 (.int .i64 4)) ∧ w = w' := by
  have hc0 := h.c0
  have HM := Lib.hid h.map
  obtain ⟨h1, h2, h3, h4⟩ := hb
  have hkey := Maps.keyOf_int_mk Tryd.underlying3 (WalkArith.wf_i64 (n := id) (by omega))
  have HKEY := Lib.hid hkey
  have HF := Lib.hid (find_encP l id)
  rw [hx] at HF
  have HN := Lib.hid (encP_len l)
  clear hkey h hx
  go_enter Tryd.func7, Tryd.ntmps7
  go_wp2_with (first
    | (at_lookup; refine wpList_look_ok rfl _ _ 67 rfl 3 72 law Tryd.underlying67 _ (zeroE _) m (encP l) rfl HM.out _ _ rfl HKEY.out ?_; rw [HF.out])
    | (at_len; refine wpList_len rfl _ 67 rfl 3 72 Tryd.underlying67 m (encP l) rfl HM.out ?_; rw [HN.out])
    | go_in)
  go_ret
  exact ⟨rfl, rfl⟩
set_option maxRecDepth 100000 in
set_option maxHeartbeats 4000000 in
theorem add_ok {b m : Nat} {l : List Ent} {w : World} (h : IsPick w b m l) (id wt : Int) (hb : okAdd id wt) (hx : findE l id = none) (hl : l.length < 100) :
    Calls Tryd.prog 7 #[.pointer (some ⟨b, 0, none⟩), .int .i64 id, .int .i64 wt] w fun e w' => ∃ a bid sc ok, e = .returned .nilIface ∧ Best (fun _ => True) l bid sc ok ∧ IsPick w' b m (l ++ [⟨id, a, wt, sc, false⟩]) ∧ Mod (fun k => k = m) w w' ∧ w.heap.size ≤ a := by
  have hc0 := h.c0
  have HM := Lib.hid h.map
  have H := Lib.hid h
  have HLA := Lib.hid (least_any h)
  have hlt := h.lt
  have HOK := Lib.hid hb
  obtain ⟨h1, h2, h3, h4⟩ := hb
  have hkey := Maps.keyOf_int_mk Tryd.underlying3 (WalkArith.wf_i64 (n := id) (by omega))
  have HKEY := Lib.hid hkey
  have HF := Lib.hid (find_encP l id)
  have HX := Lib.hid hx
  rw [hx] at HF
  have HN := Lib.hid (encP_len l)
  clear hkey h hx
  go_enter Tryd.func7, Tryd.ntmps7
  go_wp2_with (first
    | (at_lookup; refine wpList_look_ok rfl _ _ 67 rfl 3 72 law Tryd.underlying67 _ (zeroE _) m (encP l) rfl HM.out _ _ rfl HKEY.out ?_; rw [HF.out])
    | (at_len; refine wpList_len rfl _ 67 rfl 3 72 Tryd.underlying67 m (encP l) rfl HM.out ?_; rw [HN.out])
    | (go_at_call 26; refine HLA.out.mono ?_; rintro e w1 ⟨bid, sc, ok, rfl, hbest, hB⟩; have HBE := Lib.hid hbest; have HB := Lib.hid hB; have hsz := hB.size; have H1 := Lib.hid (H.out.below hB); have hc1 := H1.out.c0; clear hbest hB)
    | (at_mapUpdate; refine wpList_put rfl _ _ _ 67 rfl 3 72 law Tryd.underlying67 m (encP l) rfl (MapIs.alloc H1.out.map _) (by rw [HN.out]; omega) _ _ _ rfl rfl HKEY.out trivial ?_; intro w2 hm2 hg2; have HM2 := Lib.hid (And.intro hm2 hg2); clear hm2 hg2)
    | go_in)
  go_ret
  obtain ⟨hm2, hg2⟩ := HM2.out
  have hm2' : MapIs w2 Tryd.prog 3 m (encP (l ++ [⟨id, w1.heap.size, wt, sc, false⟩])) := by
    rw [← putA_none HX.out ⟨id, w1.heap.size, wt, sc, false⟩ rfl]; exact hm2
  have hblk : w2.heap[w1.heap.size]? = (w1.alloc (.cells #[.int .i64 wt, .int .i64 sc, .bool false] 77)).heap[w1.heap.size]? := hg2.block _ (by simp) (by simp; omega)
  have hsc : 0 ≤ sc ∧ sc ≤ 4611686018427387904 := by
    rcases HBE.out with ⟨_, _, h, _⟩ | ⟨_, e, he, _, _, _, h, _⟩
    · omega
    · rw [← h]; exact (H.out.ents e he).hs
  refine ⟨w1.heap.size, bid, sc, ok, rfl, HBE.out, H1.out.add _ hm2' (fun k hk hne => ?_) ?_ (Nat.le_refl _), ?_, by omega⟩
  · rw [hg2.block k (by simp; omega) (by simp; exact hne)]; exact Below.heap_alloc _ _ _ hk
  · exact ⟨(World.cell?_of_block (a := ⟨w1.heap.size, 0, none⟩) hblk).trans (by simp), (World.cell?_of_block (a := ⟨w1.heap.size, 1, none⟩) hblk).trans (by simp), (World.cell?_of_block (a := ⟨w1.heap.size, 2, none⟩) hblk).trans (by simp),
      (World.frozen?_of_block (a := ⟨w1.heap.size, 1, none⟩) hblk).trans (by simp), (World.frozen?_of_block (a := ⟨w1.heap.size, 2, none⟩) hblk).trans (by simp), by simp; omega, by simp; omega, ⟨HOK.out.2.2.1, HOK.out.2.2.2⟩, hsc, ⟨HOK.out.1, HOK.out.2.1⟩⟩
  · exact ((Mod.ofBelow (S := fun k => k = m) HB.out (fun k hk h2 => by omega)).alloc _).grown hg2 (by intro k hk _; cases hk; rfl)
/-- One entry turned. -/
def updE (l : List Ent) (id : Int) (g : Ent → Ent) : List Ent := l.map fun e => if e.id = id then g e else e
theorem updE_len (l : List Ent) (id : Int) (g : Ent → Ent) : (updE l id g).length = l.length := by simp [updE]
theorem encP_upd (l : List Ent) (id : Int) (g : Ent → Ent) (hg : ∀ e, (g e).id = e.id ∧ (g e).a = e.a) : encP (updE l id g) = encP l := by
  simp only [encP, updE, List.map_map]
  apply List.map_congr_left
  intro e he
  simp only [Function.comp]
  split
  · rw [(hg e).1, (hg e).2]
  · rfl
theorem a_inj {l : List Ent} (hp : l.Pairwise fun x y => x.a ≠ y.a) {x y : Ent} (hx : x ∈ l) (hy : y ∈ l) (h : x.a = y.a) : x = y := by
  induction l with
  | nil => cases hx
  | cons z l ih =>
    have hz := List.pairwise_cons.1 hp
    rcases List.mem_cons.1 hx with rfl | hx
    · rcases List.mem_cons.1 hy with rfl | hy
      · rfl
      · exact absurd h (hz.1 y hy)
    · rcases List.mem_cons.1 hy with e | hy
      · exact absurd (by rw [← e]; exact h.symm) (hz.1 x hx)
      · exact ih hz.2 hx hy
/-- A store into an entry's block: the entry is turned, and no other. -/
theorem IsPick.store {w : World} {b m : Nat} {l : List Ent} (h : IsPick w b m l) (x : Ent) (hx : x ∈ l) (j : Nat) (v : Value) (g : Ent → Ent) (hg : ∀ e, (g e).id = e.id ∧ (g e).a = e.a) (hat : EntAt (w.setCell ⟨x.a, j, none⟩ v) b m (g x)) :
    IsPick (w.setCell ⟨x.a, j, none⟩ v) b m (updE l x.id g) := by
  have hk := h.map.1
  have hxe := h.ents x hx
  refine ⟨?_, ?_, h.ne, fun e he => ?_, ?_⟩
  · rw [encP_upd l x.id g hg]; exact h.map.setCell _ _ hxe.nm
  · rw [World.cell?_setCell_other _ _ _ _ (by simp; exact fun e => absurd e hxe.nb)]; exact h.c0
  · obtain ⟨e0, he0, rfl⟩ := List.mem_map.1 he
    by_cases hid : e0.id = x.id
    · have := ids_inj hk he0 hx hid
      subst this
      simp only [if_true]; exact hat
    · simp only [hid, if_false]
      have hne : e0.a ≠ x.a := fun e => hid (by rw [a_inj h.apart he0 hx e])
      exact (h.ents e0 he0).of_block (Below.heap_setCell _ _ _ _ hne)
  · unfold updE
    rw [List.pairwise_map]
    refine h.apart.imp fun {p q} hpq => ?_
    have e1 : ∀ z : Ent, (if z.id = x.id then g z else z).a = z.a := fun z => by split <;> simp [(hg z).2]
    rw [e1, e1]; exact hpq
theorem IsPick.storeSc {w : World} {b m : Nat} {l : List Ent} (h : IsPick w b m l) (x : Ent) (hx : x ∈ l) (s : Int) (hs : 0 ≤ s ∧ s ≤ 4611686018427387904) :
    IsPick (w.setCell ⟨x.a, 1, none⟩ (.int .i64 s)) b m (updE l x.id fun e => { e with sc := s }) := by
  have hE := h.ents x hx
  refine h.store x hx 1 _ _ (fun e => ⟨rfl, rfl⟩) ⟨?_, World.cell?_setCell_same _ _ _ hE.c1, ?_, by simp [go_sem, hE.f1], by simp [go_sem, hE.f2], hE.nb, hE.nm, hE.hw, hs, hE.hi⟩
  · rw [World.cell?_setCell_other _ _ _ _ (by simp)]; exact hE.c0
  · rw [World.cell?_setCell_other _ _ _ _ (by simp)]; exact hE.c2
theorem IsPick.storeWants {w : World} {b m : Nat} {l : List Ent} (h : IsPick w b m l) (x : Ent) (hx : x ∈ l) (y : Bool) :
    IsPick (w.setCell ⟨x.a, 2, none⟩ (.bool y)) b m (updE l x.id fun e => { e with wants := y }) := by
  have hE := h.ents x hx
  refine h.store x hx 2 _ _ (fun e => ⟨rfl, rfl⟩) ⟨?_, ?_, World.cell?_setCell_same _ _ _ hE.c2, by simp [go_sem, hE.f1], by simp [go_sem, hE.f2], hE.nb, hE.nm, hE.hw, hE.hs, hE.hi⟩
  · rw [World.cell?_setCell_other _ _ _ _ (by simp)]; exact hE.c0
  · rw [World.cell?_setCell_other _ _ _ _ (by simp)]; exact hE.c1
theorem updE_mem {l : List Ent} {x : Ent} (hx : x ∈ l) (g : Ent → Ent) : g x ∈ updE l x.id g := List.mem_map.2 ⟨x, hx, by simp⟩
theorem updE_upd (l : List Ent) (id : Int) (g k : Ent → Ent) (hg : ∀ e, (g e).id = e.id) : updE (updE l id g) id k = updE l id (fun e => k (g e)) := by
  simp only [updE, List.map_map]
  apply List.map_congr_left
  intro e he
  simp only [Function.comp]
  by_cases h : e.id = id
  · simp [h, hg]
  · simp [h]
theorem updE_congr {l : List Ent} (hk : Keys (encP l)) {x : Ent} (hx : x ∈ l) (g k : Ent → Ent) (h : g x = k x) : updE l x.id g = updE l x.id k := by
  apply List.map_congr_left
  intro e he
  by_cases hi : e.id = x.id
  · rw [ids_inj hk he hx hi]; simp [h]
  · simp [hi]
def wantSc (e : Ent) (ok : Bool) (sc : Int) (yes : Bool) : Int := if ok && yes && !e.wants then max e.sc sc else e.sc
def wantE (ok : Bool) (sc : Int) (yes : Bool) (e : Ent) : Ent := { e with sc := wantSc e ok sc yes, wants := yes }
theorem want_none {b m : Nat} {l : List Ent} {w : World} (h : IsPick w b m l) (id : Int) (yes : Bool) (hid : -9223372036854775808 ≤ id ∧ id ≤ 9223372036854775807) (hx : findE l id = none) :
    Calls Tryd.prog 11 #[.pointer (some ⟨b, 0, none⟩), .int .i64 id, .bool yes] w fun e w' => e = .returned (.iface 70 (.int .i64 5)) ∧ w = w' := by
  have HG := Lib.hid (get_none h id hid hx)
  clear h hx
  go_enter Tryd.func11, Tryd.ntmps11
  go_wp2_with (go_at_call 28; refine HG.out.mono ?_; rintro e w' ⟨rfl, rfl⟩)
  go_ret
  exact ⟨rfl, rfl⟩
set_option maxRecDepth 100000 in
set_option maxHeartbeats 4000000 in
theorem want_some {b m : Nat} {l : List Ent} {w : World} (h : IsPick w b m l) (id : Int) (yes : Bool) (hid : -9223372036854775808 ≤ id ∧ id ≤ 9223372036854775807) (x : Ent) (hx : findE l id = some x) :
    Calls Tryd.prog 11 #[.pointer (some ⟨b, 0, none⟩), .int .i64 id, .bool yes] w fun e w' => e = .returned .nilIface ∧ ∃ bid sc ok, Best (fun _ => True) l bid sc ok ∧ IsPick w' b m (updE l id (wantE ok sc yes)) ∧ Mod (fun k => ∃ e ∈ l, e.a = k) w w' := by
  obtain ⟨hxl, rfl⟩ := findE_some hx
  have HG := Lib.hid (get_some h x.id hid x hx)
  have HL := Lib.hid (least_any h)
  have H := Lib.hid h
  have HXL := Lib.hid hxl
  clear h hx hxl
  go_enter Tryd.func11, Tryd.ntmps11
  go_wp2_with (go_at_call 28; refine HG.out.mono ?_; rintro e w' ⟨rfl, rfl⟩)
  refine HL.out.mono ?_
  rintro e w1 ⟨bid, sc, ok, rfl, hbest, hB⟩
  have HBE := Lib.hid hbest
  have HB := Lib.hid hB
  have H1 := Lib.hid (H.out.below hB)
  have hE := H1.out.ents x HXL.out
  have hsc : 0 ≤ sc ∧ sc ≤ 4611686018427387904 := by
    rcases hbest with ⟨_, _, h, _⟩ | ⟨_, e, he, _, _, _, h, _⟩
    · omega
    · rw [← h]; exact (H.out.ents e he).hs
  obtain ⟨hsc1, hsc2⟩ := hsc
  have k1 := hE.c1
  have k2 := hE.c2
  have f1 := hE.f1
  have f2 := hE.f2
  have hs1 := hE.hs.1
  have hs2 := hE.hs.2
  have HM : Hid (∀ j v, Mod (fun k => ∃ e ∈ l, e.a = k) w (w1.setCell ⟨x.a, j, none⟩ v)) := fun j v => (Mod.ofBelow HB.out (fun k hk h2 => by omega)).setCell (fun _ => ⟨x, HXL.out, rfl⟩) v
  have HM2 : Hid (∀ j v i u, Mod (fun k => ∃ e ∈ l, e.a = k) w ((w1.setCell ⟨x.a, j, none⟩ v).setCell ⟨x.a, i, none⟩ u)) := fun j v i u => (HM.out j v).setCell (fun _ => ⟨x, HXL.out, rfl⟩) u
  have hw : x.wants = x.wants := rfl
  clear hbest hB hE
  by_cases hq : ok = true ∧ yes = true ∧ x.wants = false
  · obtain ⟨rfl, rfl, h3⟩ := hq
    rw [h3] at k2
    go_wp2
    go_ret
    refine ⟨rfl, bid, sc, true, HBE.out, ?_, HM2.out _ _ _ _⟩
    have i1 := H1.out.storeSc x HXL.out (max x.sc sc) (by omega)
    have i2 := i1.storeWants _ (updE_mem HXL.out fun e => { e with sc := max x.sc sc }) true
    rw [updE_upd] at i2
    · rw [updE_congr H1.out.map.1 HXL.out (wantE true sc true) (fun e => { e with sc := max x.sc sc, wants := true }) (by simp [wantE, wantSc, h3])]; exact i2
    · intro e; rfl
  · have hno : wantSc x ok sc yes = x.sc := by
      unfold wantSc
      rw [if_neg]
      intro h
      simp only [Bool.and_eq_true, Bool.not_eq_true'] at h
      exact hq ⟨h.1.1, h.1.2, h.2⟩
    have hcase : ok = false ∨ (ok = true ∧ yes = false) ∨ (ok = true ∧ yes = true ∧ x.wants = true) := by
      cases ok <;> cases yes <;> simp_all
    have HNO := Lib.hid hno
    clear hq hno
    rcases hcase with rfl | ⟨rfl, rfl⟩ | ⟨rfl, rfl, h3⟩
    · go_wp2
      go_ret
      refine ⟨rfl, bid, sc, false, HBE.out, ?_, HM.out _ _⟩
      have i2 := H1.out.storeWants x HXL.out yes
      rw [updE_congr H1.out.map.1 HXL.out (wantE false sc yes) (fun e => { e with wants := yes }) (by simp only [wantE, HNO.out])]; exact i2
    · go_wp2
      go_ret
      refine ⟨rfl, bid, sc, true, HBE.out, ?_, HM.out _ _⟩
      have i2 := H1.out.storeWants x HXL.out false
      rw [updE_congr H1.out.map.1 HXL.out (wantE true sc false) (fun e => { e with wants := false }) (by simp only [wantE, HNO.out])]; exact i2
    · rw [h3] at k2
      go_wp2
      go_ret
      refine ⟨rfl, bid, sc, true, HBE.out, ?_, HM.out _ _⟩
      have i2 := H1.out.storeWants x HXL.out true
      rw [updE_congr H1.out.map.1 HXL.out (wantE true sc true) (fun e => { e with wants := true }) (by simp only [wantE, HNO.out])]; exact i2
set_option maxRecDepth 100000 in
set_option maxHeartbeats 2000000 in
theorem div64_low (lo y : Int) (h0 : 0 ≤ lo) (h1 : lo ≤ 65536000000) (h2 : 1 ≤ y) (h3 : y ≤ 256) (w : World) :
    Calls Tryd.prog 30 #[.int .u64 0, .int .u64 lo, .int .u64 y] w fun e w' => e = .returned (.tuple #[.int .u64 (lo / y), .int .u64 (lo % y)]) ∧ ∃ n, w.drewN n = w' := by
  have hy : (y == 0) = false := by rw [beq_eq_false_iff_ne]; omega
  go_enter Tryd.func30, Tryd.ntmps30
  go_wp2
  go_quiet (fail)
  go_wp2
  go_ret2
  exact ⟨rfl, nq, rfl⟩
theorem mul64_low (n : Int) (h0 : 0 ≤ n) (h1 : n ≤ 1000000) (w : World) :
    Calls Tryd.prog 29 #[.int .u64 n, .int .u64 65536] w fun e w' => e = .returned (.tuple #[.int .u64 0, .int .u64 (n * 65536)]) ∧ w = w' := by
  obtain ⟨k, rfl⟩ := Int.eq_ofNat_of_zero_le h0
  refine (Tryd.bits_Mul64 k 65536 (by omega) (by decide) w).mono fun e w' ⟨h1, h2⟩ => ⟨?_, h2.symm⟩
  rw [h1]
  have e1 : k * 65536 / 18446744073709551616 = 0 := Nat.div_eq_of_lt (by omega)
  have e2 : k * 65536 % 18446744073709551616 = k * 65536 := Nat.mod_eq_of_lt (by omega)
  rw [e1, e2]
  simp
def sentSc (e : Ent) (n : Int) : Int := min 4611686018427387904 (e.sc + n * 65536 / e.wt)
def sentE (n : Int) (e : Ent) : Ent := { e with sc := sentSc e n }
theorem sent_none {b m : Nat} {l : List Ent} {w : World} (h : IsPick w b m l) (id n : Int) (hid : -9223372036854775808 ≤ id ∧ id ≤ 9223372036854775807) (hx : findE l id = none) :
    Calls Tryd.prog 13 #[.pointer (some ⟨b, 0, none⟩), .int .i64 id, .int .i64 n] w fun e w' => e = .returned (.iface 70 (.int .i64 5)) ∧ w = w' := by
  have HG := Lib.hid (get_none h id hid hx)
  clear h hx
  go_enter Tryd.func13, Tryd.ntmps13
  go_wp2_with (go_at_call 28; refine HG.out.mono ?_; rintro e w' ⟨rfl, rfl⟩)
  go_ret
  exact ⟨rfl, rfl⟩
theorem sent_bad {b m : Nat} {l : List Ent} {w : World} (h : IsPick w b m l) (id n : Int) (hid : -9223372036854775808 ≤ id ∧ id ≤ 9223372036854775807) (x : Ent) (hx : findE l id = some x) (hn : n < 0 ∨ 1000000 < n) :
    Calls Tryd.prog 13 #[.pointer (some ⟨b, 0, none⟩), .int .i64 id, .int .i64 n] w fun e w' => e = .returned (.iface 70 (.int .i64 1)) ∧ w = w' := by
  have HG := Lib.hid (get_some h id hid x hx)
  clear h hx
  by_cases h0 : n < 0
  · go_enter Tryd.func13, Tryd.ntmps13
    go_wp2_with (go_at_call 28; refine HG.out.mono ?_; rintro e w' ⟨rfl, rfl⟩)
    go_ret
    exact ⟨rfl, rfl⟩
  · have h1 : 1000000 < n := by omega
    go_enter Tryd.func13, Tryd.ntmps13
    go_wp2_with (go_at_call 28; refine HG.out.mono ?_; rintro e w' ⟨rfl, rfl⟩)
    go_ret
    exact ⟨rfl, rfl⟩
set_option maxRecDepth 100000 in
set_option maxHeartbeats 4000000 in
theorem sent_some {b m : Nat} {l : List Ent} {w : World} (h : IsPick w b m l) (id n : Int) (hid : -9223372036854775808 ≤ id ∧ id ≤ 9223372036854775807) (x : Ent) (hx : findE l id = some x) (hn : 0 ≤ n ∧ n ≤ 1000000) :
    Calls Tryd.prog 13 #[.pointer (some ⟨b, 0, none⟩), .int .i64 id, .int .i64 n] w fun e w' => e = .returned .nilIface ∧ IsPick w' b m (updE l id (sentE n)) ∧ Mod (fun k => ∃ e ∈ l, e.a = k) w w' := by
  obtain ⟨hxl, rfl⟩ := findE_some hx
  have HG := Lib.hid (get_some h x.id hid x hx)
  have H := Lib.hid h
  have HXL := Lib.hid hxl
  have hE := h.ents x hxl
  have k0 := hE.c0
  have k1 := hE.c1
  have f1 := hE.f1
  have hs1 := hE.hs.1
  have hs2 := hE.hs.2
  have hw1 := hE.hw.1
  have hw2 := hE.hw.2
  obtain ⟨hn1, hn2⟩ := hn
  have HM := Lib.hid (mul64_low n hn1 hn2)
  have HD := Lib.hid (div64_low (n * 65536) x.wt (by omega) (by omega) hw1 hw2)
  have q1 : 0 ≤ n * 65536 / x.wt := Int.ediv_nonneg (by omega) (by omega)
  have q2 : n * 65536 / x.wt ≤ n * 65536 := Int.ediv_le_self _ (by omega)
  have q3 : n * 65536 / x.wt ≤ 65536000000 := by omega
  have HSC : Hid (sentSc x n = min 4611686018427387904 (x.sc + n * 65536 / x.wt)) := rfl
  clear q2 hE h hx hxl
  generalize n * 65536 / x.wt = q at *
  generalize x.wt = wt at *
  generalize hsc : x.sc = sc at *
  have HSX := Lib.hid hsc
  clear hsc
  go_enter Tryd.func13, Tryd.ntmps13
  go_wp2_with (first
    | (go_at_call 28; refine HG.out.mono ?_; rintro e w' ⟨rfl, rfl⟩)
    | (go_at_call 29; refine (HM.out _).mono ?_; rintro e w' ⟨rfl, rfl⟩)
    | (go_at_call 30; refine (HD.out _).mono ?_; rintro e w' ⟨rfl, nq, rfl⟩))
  go_ret
  have H1 := H.out.below (below_drewN (Below.refl w.heap.size w) nq)
  have i1 := H1.storeSc x HXL.out (min 4611686018427387904 (sc + q)) (by omega)
  refine ⟨rfl, ?_, ((Mod.ofBelow (below_drewN (Below.refl w.heap.size w) nq) (fun k hk h2 => by omega)).setCell (fun _ => ⟨x, HXL.out, rfl⟩) _)⟩
  rw [updE_congr H1.map.1 HXL.out (sentE n) (fun e => { e with sc := min 4611686018427387904 (sc + q) }) (by simp only [sentE, HSC.out])]
  exact i1
end Go.Proofs.YtfgplghjgjnggaaDoor.PickC
