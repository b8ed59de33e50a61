/-
  Contracts of package limit over this seat's translation: New, check, left, see, Ask, Left, Wait, for every state.
  Conditions: the receiver's cells, the maps' blocks, each bucket's own block.
-/
import Derived.Test.YtfgplghjgjnggaaDoorProg
import Derived.Test.YtfgplghjgjnggaaDoorMaps
import Derived.Test.YtfgplghjgjnggaaDoorMod
import Derived.WalkSpells
import Derived.WalkLawsBesides
import Derived.Deep.QuietTactic
import Derived.BigQuiet
import Derived.IntWalk
import Derived.Lib.Hide
namespace Go.Proofs.YtfgplghjgjnggaaDoor.LimitC
open Go.RowKit MapsL ModL
set_option linter.unusedSimpArgs false
set_option linter.unusedVariables false

theorem law : Maps.Keyed Tryd.prog 9 := Maps.string_keyed Tryd.underlying9
theorem zeroA (w : World) : (zeroValue 94).run Tryd.prog w = .ok (.pointer none) w := by kernel_rfl
theorem zeroS (w : World) : (zeroValue 3).run Tryd.prog w = .ok (.int .i64 0) w := by kernel_rfl

/-- A key that has asked: its bucket's block, what was left, and when; when it was asked for last. -/
structure Ent where
  key : List UInt8
  a : Nat
  left : Int
  at_ : Int
  seen : Int
def encA (l : List Ent) : AL := l.map fun e => (.string e.key, .pointer (some ⟨e.a, 0, none⟩))
def encS (l : List Ent) : AL := l.map fun e => (.string e.key, .int .i64 e.seen)
structure EntAt (w : World) (b ma ms : Nat) (burst : Int) (e : Ent) : Prop where
  c0 : w.cell? ⟨e.a, 0, none⟩ = some (.int .i64 e.left)
  c1 : w.cell? ⟨e.a, 1, none⟩ = some (.int .i64 e.at_)
  far : e.a ≠ b ∧ e.a ≠ ma ∧ e.a ≠ ms
  hl : 0 ≤ e.left ∧ e.left ≤ burst
  ht : 0 ≤ e.at_ ∧ e.at_ ≤ e.seen ∧ e.seen ≤ 1000000
structure IsLimit (w : World) (b ma ms : Nat) (rate burst : Int) (l : List Ent) : Prop where
  mapA : MapIs w Tryd.prog 9 ma (encA l)
  mapS : MapIs w Tryd.prog 9 ms (encS l)
  c0 : w.cell? ⟨b, 0, none⟩ = some (.int .i64 rate)
  c1 : w.cell? ⟨b, 1, none⟩ = some (.int .i64 burst)
  c2 : w.cell? ⟨b, 2, none⟩ = some (.map (some ma))
  c3 : w.cell? ⟨b, 3, none⟩ = some (.map (some ms))
  ne : b ≠ ma ∧ b ≠ ms ∧ ma ≠ ms
  ents : ∀ e ∈ l, EntAt w b ma ms burst e
  hr : 1 ≤ rate ∧ rate ≤ 1000000
  hb : 1 ≤ burst ∧ burst ≤ 1000000
theorem EntAt.of_block {w w' : World} {b ma ms : Nat} {burst : Int} {e : Ent} (h : EntAt w b ma ms burst e) (hb : w'.heap[e.a]? = w.heap[e.a]?) : EntAt w' b ma ms burst e :=
  ⟨(World.cell?_of_block (a := ⟨e.a, 0, none⟩) hb).trans h.c0, (World.cell?_of_block (a := ⟨e.a, 1, none⟩) hb).trans h.c1, h.far, h.hl, h.ht⟩
theorem EntAt.lt {w : World} {b ma ms : Nat} {burst : Int} {e : Ent} (h : EntAt w b ma ms burst e) : e.a < w.heap.size := block_lt_of_cell h.c0
theorem IsLimit.lt {w : World} {b ma ms : Nat} {rate burst : Int} {l : List Ent} (h : IsLimit w b ma ms rate burst l) : b < w.heap.size ∧ ma < w.heap.size ∧ ms < w.heap.size := ⟨block_lt_of_cell h.c0, h.mapA.lt, h.mapS.lt⟩
theorem IsLimit.below {w w' : World} {b ma ms : Nat} {rate burst : Int} {l : List Ent} (h : IsLimit w b ma ms rate burst l) (hB : Below w.heap.size w w') : IsLimit w' b ma ms rate burst l :=
  ⟨h.mapA.below hB h.lt.2.1, h.mapS.below hB h.lt.2.2, (hB.cell (p := ⟨b, 0, none⟩) h.lt.1).trans h.c0, (hB.cell (p := ⟨b, 1, none⟩) h.lt.1).trans h.c1, (hB.cell (p := ⟨b, 2, none⟩) h.lt.1).trans h.c2, (hB.cell (p := ⟨b, 3, none⟩) h.lt.1).trans h.c3,
    h.ne, fun e he => (h.ents e he).of_block (hB.block _ (h.ents e he).lt), h.hr, h.hb⟩
theorem IsLimit.of_block {w w' : World} {b ma ms : Nat} {rate burst : Int} {l : List Ent} (h : IsLimit w b ma ms rate burst l) (hk : ∀ k, k < w.heap.size → (k = b ∨ k = ma ∨ k = ms ∨ ∃ e ∈ l, e.a = k) → w'.heap[k]? = w.heap[k]?) : IsLimit w' b ma ms rate burst l :=
  have hb := hk b h.lt.1 (.inl rfl)
  ⟨h.mapA.of_block (hk _ h.lt.2.1 (.inr (.inl rfl))), h.mapS.of_block (hk _ h.lt.2.2 (.inr (.inr (.inl rfl)))), (World.cell?_of_block (a := ⟨b, 0, none⟩) hb).trans h.c0, (World.cell?_of_block (a := ⟨b, 1, none⟩) hb).trans h.c1, (World.cell?_of_block (a := ⟨b, 2, none⟩) hb).trans h.c2, (World.cell?_of_block (a := ⟨b, 3, none⟩) hb).trans h.c3,
    h.ne, fun e he => (h.ents e he).of_block (hk _ (h.ents e he).lt (.inr (.inr (.inr ⟨e, he, rfl⟩)))), h.hr, h.hb⟩
theorem below_drewN {B : Nat} {w w' : World} (h : Below B w w') (n : Nat) : Below B w (w'.drewN n) := ⟨h.os, h.tape, h.output, h.size, h.block⟩
theorem IsLimit.drewN {w : World} {b ma ms : Nat} {rate burst : Int} {l : List Ent} (h : IsLimit w b ma ms rate burst l) (n : Nat) : IsLimit (w.drewN n) b ma ms rate burst l := h.below (below_drewN (Below.refl _ _) n)
theorem cell_at (W : World) (cs : Array Value) (t : TypeId) (b i : Nat) (hb : b = W.heap.size) : (W.alloc (.cells cs t)).cell? ⟨b, i, none⟩ = cs[i]? := by subst hb; simp
theorem new_cell {w : World} (o1 o2 : Obj) (cs : Array Value) (t : TypeId) (i : Nat) : (((w.alloc o1).alloc o2).alloc (.cells cs t)).cell? ⟨w.heap.size + 2, i, none⟩ = cs[i]? := cell_at _ cs t _ i (by simp)
theorem new_bad (rate burst : Int) (w : World) (h : rate < 1 ∨ 1000000 < rate ∨ burst < 1 ∨ 1000000 < burst) : Calls Tryd.prog 17 #[.int .i64 rate, .int .i64 burst] w fun e w' => e = .returned (.tuple #[.pointer none, .iface 70 (.int .i64 1)]) ∧ w = w' := by
  have h' : rate < 1 ∨ (1 ≤ rate ∧ 1000000 < rate) ∨ (1 ≤ rate ∧ rate ≤ 1000000 ∧ burst < 1) ∨ (1 ≤ rate ∧ rate ≤ 1000000 ∧ 1 ≤ burst ∧ 1000000 < burst) := by omega
  clear h
  rcases h' with h1 | ⟨h1, h2⟩ | ⟨h1, h2, h3⟩ | ⟨h1, h2, h3, h4⟩
  all_goals
    go_enter Tryd.func17, Tryd.ntmps17
    go_wp2
    go_ret2
    exact ⟨rfl, rfl⟩
theorem new_ok (rate burst : Int) (w : World) (hr : 1 ≤ rate ∧ rate ≤ 1000000) (hb : 1 ≤ burst ∧ burst ≤ 1000000) : Calls Tryd.prog 17 #[.int .i64 rate, .int .i64 burst] w fun e w' =>
    e = .returned (.tuple #[.pointer (some ⟨w.heap.size + 2, 0, none⟩), .nilIface]) ∧ IsLimit w' (w.heap.size + 2) w.heap.size (w.heap.size + 1) rate burst [] ∧ Below w.heap.size w w' ∧ w'.heap.size = w.heap.size + 3 := by
  have hmm := @run_makeMap Tryd.prog
  obtain ⟨h1, h2⟩ := hr
  obtain ⟨h3, h4⟩ := hb
  go_enter Tryd.func17, Tryd.ntmps17
  go_wp2
  go_ret2
  refine ⟨rfl, ⟨((MapIs.made w _ _).alloc _).alloc _, ?_, new_cell _ _ _ _ 0, new_cell _ _ _ _ 1, new_cell _ _ _ _ 2, new_cell _ _ _ _ 3, by omega, by simp, ⟨h1, h2⟩, ⟨h3, h4⟩⟩, (((Below.refl _ _).alloc (Nat.le_refl _) _).alloc (by simp) _).alloc (by simp; omega) _, by simp⟩
  have := (MapIs.made (w.alloc (.map #[] 0)) Tryd.prog 9).alloc (.cells #[.int .i64 rate, .int .i64 burst, .map (some w.heap.size), .map (some (w.heap.size + 1))] 87)
  simpa [encS] using this
theorem ret_int {k : IntKind} {a b : Int} (h : a = b) : Ending.returned (.int k a) = .returned (.int k b) := by rw [h]
def findK (l : List Ent) (k : List UInt8) : Option Ent := l.find? fun e => e.key == k
theorem find_encA (l : List Ent) (k : List UInt8) : find (encA l) (.string k) = (findK l k).map fun e => .pointer (some ⟨e.a, 0, none⟩) := by
  induction l with
  | nil => rfl
  | cons p l ih =>
    have e : encA (p :: l) = (.string p.key, .pointer (some ⟨p.a, 0, none⟩)) :: encA l := rfl
    rw [e, find_cons, ih]
    simp only [findK, List.find?_cons, Lit.sameKey]
    by_cases h : (p.key == k) = true
    · simp [h]
    · simp [h]
theorem find_encS (l : List Ent) (k : List UInt8) : find (encS l) (.string k) = (findK l k).map fun e => .int .i64 e.seen := by
  induction l with
  | nil => rfl
  | cons p l ih =>
    have e : encS (p :: l) = (.string p.key, .int .i64 p.seen) :: encS l := rfl
    rw [e, find_cons, ih]
    simp only [findK, List.find?_cons, Lit.sameKey]
    by_cases h : (p.key == k) = true
    · simp [h]
    · simp [h]
theorem findK_some {l : List Ent} {k : List UInt8} {e : Ent} (h : findK l k = some e) : e ∈ l ∧ e.key = k := by
  have h1 := List.mem_of_find?_eq_some h
  have h2 := List.find?_some h
  exact ⟨h1, by simpa using h2⟩
def seenF (l : List Ent) (k : List UInt8) : Int := ((findK l k).map (·.seen)).getD 0
def leftF (rate burst : Int) (l : List Ent) (k : List UInt8) (now : Int) : Int := match findK l k with
  | none => burst
  | some e => min burst (e.left + rate * (now - e.at_))
/-- What is wrong with an ask; 0: nothing. -/
def checkE (burst : Int) (l : List Ent) (k : List UInt8) (now n : Int) : Int :=
  if n < 1 ∨ burst < n ∨ now < 0 ∨ 1000000 < now then 1 else if now < seenF l k then 6 else 0
set_option maxRecDepth 100000 in
set_option maxHeartbeats 2000000 in
theorem check_any {w : World} {b ma ms : Nat} {rate burst : Int} {l : List Ent} (h : IsLimit w b ma ms rate burst l) (s : ByteArray) (hs : s.size ≤ maxLen) (now n : Int) :
    Calls Tryd.prog 35 #[.pointer (some ⟨b, 0, none⟩), .string s, .int .i64 now, .int .i64 n] w fun e w' => w = w' ∧
      ((checkE burst l s.data.toList now n = 0 ∧ e = .returned .nilIface) ∨ (checkE burst l s.data.toList now n ≠ 0 ∧ e = .returned (.iface 70 (.int .i64 (checkE burst l s.data.toList now n))))) := by
  have c1 := h.c1
  have c3 := h.c3
  have HM := Lib.hid h.mapS
  have hkey := Go.WideMaps.keyOf_string_mk Tryd.underlying9 hs
  have HKEY := Lib.hid hkey
  have HF := Lib.hid (find_encS l s.data.toList)
  clear hkey h
  by_cases hq : n < 1 ∨ burst < n ∨ now < 0 ∨ 1000000 < now
  · have HE : Hid (checkE burst l s.data.toList now n = 1) := by show _ = _; unfold checkE; rw [if_pos hq]
    have hq' : n < 1 ∨ (1 ≤ n ∧ burst < n) ∨ (1 ≤ n ∧ n ≤ burst ∧ now < 0) ∨ (1 ≤ n ∧ n ≤ burst ∧ 0 ≤ now ∧ 1000000 < now) := by omega
    clear hq
    rcases hq' with h1 | ⟨h1, h2⟩ | ⟨h1, h2, h3⟩ | ⟨h1, h2, h3, h4⟩
    all_goals
      go_enter Tryd.func35, Tryd.ntmps35
      go_wp2
      go_ret
      exact ⟨rfl, .inr ⟨by rw [HE.out]; decide, by rw [HE.out]; rfl⟩⟩
  · obtain ⟨h1, h2, h3, h4⟩ : 1 ≤ n ∧ n ≤ burst ∧ 0 ≤ now ∧ now ≤ 1000000 := by omega
    have hsf : seenF l s.data.toList = ((findK l s.data.toList).map (·.seen)).getD 0 := rfl
    have hgd : ((find (encS l) (.string s.data.toList)).getD (.int .i64 0)) = .int .i64 (seenF l s.data.toList) := by
      rw [HF.out, hsf]; cases findK l s.data.toList <;> rfl
    have HGD := Lib.hid hgd
    by_cases h5 : now < seenF l s.data.toList
    · have HE : Hid (checkE burst l s.data.toList now n = 6) := by show _ = _; unfold checkE; rw [if_neg hq, if_pos h5]
      clear hq hsf hgd
      generalize seenF l s.data.toList = sf at *
      go_enter Tryd.func35, Tryd.ntmps35
      go_wp2_with (first
        | (at_lookup; refine wpList_look rfl _ _ 85 rfl 9 3 law Tryd.underlying85 _ (zeroS _) ms (encS l) rfl HM.out _ _ rfl HKEY.out ?_; rw [HGD.out])
        | go_in)
      go_ret
      exact ⟨rfl, .inr ⟨by rw [HE.out]; decide, by rw [HE.out]; rfl⟩⟩
    · have HE : Hid (checkE burst l s.data.toList now n = 0) := by show _ = _; unfold checkE; rw [if_neg hq, if_neg h5]
      clear hq hsf hgd
      generalize seenF l s.data.toList = sf at *
      go_enter Tryd.func35, Tryd.ntmps35
      go_wp2_with (first
        | (at_lookup; refine wpList_look rfl _ _ 85 rfl 9 3 law Tryd.underlying85 _ (zeroS _) ms (encS l) rfl HM.out _ _ rfl HKEY.out ?_; rw [HGD.out])
        | go_in)
      go_ret
      exact ⟨rfl, .inl ⟨HE.out, rfl⟩⟩
set_option maxRecDepth 100000 in
set_option maxHeartbeats 4000000 in
theorem left_any {w : World} {b ma ms : Nat} {rate burst : Int} {l : List Ent} (h : IsLimit w b ma ms rate burst l) (s : ByteArray) (hs : s.size ≤ maxLen) (now : Int) (hn : 0 ≤ now ∧ now ≤ 1000000) (hse : seenF l s.data.toList ≤ now) :
    Calls Tryd.prog 36 #[.pointer (some ⟨b, 0, none⟩), .string s, .int .i64 now] w fun e w' => e = .returned (.int .i64 (leftF rate burst l s.data.toList now)) ∧ ∃ n, w.drewN n = w' := by
  have c0 := h.c0
  have c1 := h.c1
  have c2 := h.c2
  have HM := Lib.hid h.mapA
  have hkey := Go.WideMaps.keyOf_string_mk Tryd.underlying9 hs
  have HKEY := Lib.hid hkey
  have HF := Lib.hid (find_encA l s.data.toList)
  obtain ⟨hn1, hn2⟩ := hn
  cases hx : findK l s.data.toList with
  | none =>
    have HL : Hid (leftF rate burst l s.data.toList now = burst) := by show _ = _; unfold leftF; rw [hx]
    rw [hx] at HF
    clear hkey h hx hse
    go_enter Tryd.func36, Tryd.ntmps36
    go_wp2_with (first
      | (at_lookup; refine wpList_look rfl _ _ 84 rfl 9 94 law Tryd.underlying84 _ (zeroA _) ma (encA l) rfl HM.out _ _ rfl HKEY.out ?_; rw [HF.out])
      | go_in)
    go_ret
    exact ⟨by rw [HL.out]; rfl, 0, rfl⟩
  | some x =>
    have HL : Hid (leftF rate burst l s.data.toList now = min burst (x.left + rate * (now - x.at_))) := by show _ = _; unfold leftF; rw [hx]
    have hE := h.ents x (findK_some hx).1
    have hsx : seenF l s.data.toList = x.seen := by unfold seenF; rw [hx]; rfl
    rw [hsx] at hse
    have k0 := hE.c0
    have k1 := hE.c1
    have g1 := hE.hl
    have g2 := hE.ht
    have g3 := h.hr
    have g4 := h.hb
    rw [hx] at HF
    generalize x.left = xl at *
    generalize x.at_ = xt at *
    have p1 : 0 ≤ rate * (now - xt) := Int.mul_nonneg (by omega) (by omega)
    have p2 : rate * (now - xt) ≤ 1000000 * 1000000 := Int.mul_le_mul (by omega) (by omega) (by omega) (by omega)
    have e1 : IntKind.i64.wrap (now - xt) = now - xt := IntWalk.i64_in _ (by omega)
    have e2 : IntKind.i64.wrap (rate * (now - xt)) = rate * (now - xt) := IntWalk.i64_in _ (by omega)
    have e3 : IntKind.i64.wrap (xl + rate * (now - xt)) = xl + rate * (now - xt) := IntWalk.i64_in _ (by omega)
    clear hkey h hx hse hE hsx g1 g2 g3 g4
    obtain ⟨Z, hZ⟩ : ∃ Z, xl + rate * (now - xt) = Z := ⟨_, rfl⟩
    have HZ := Lib.hid hZ
    have hcase : (Z < burst ∧ decide (Z < burst) = true ∧ decide (burst < Z) = false) ∨ (¬ Z < burst ∧ decide (Z < burst) = false) := by
      by_cases h : Z < burst
      · exact .inl ⟨h, by simpa using h, by simp; omega⟩
      · exact .inr ⟨h, by simpa using h⟩
    rw [hZ] at e3
    clear hZ
    rcases hcase with ⟨hz, d1, d2⟩ | ⟨hz, d1⟩
    all_goals
      go_enter Tryd.func36, Tryd.ntmps36
      go_wp2_with (first
        | (at_lookup; refine wpList_look rfl _ _ 84 rfl 9 94 law Tryd.underlying84 _ (zeroA _) ma (encA l) rfl HM.out _ _ rfl HKEY.out ?_; rw [HF.out])
        | go_in)
      have hZ := HZ.out
      go_quiet (fail)
      go_wp2
      go_ret
      refine ⟨?_, nq, rfl⟩
      rw [HL.out, HZ.out]
      exact ret_int (by omega)
/-- An entry put. -/
def upsert (l : List Ent) (x : Ent) : List Ent := match l with
  | [] => [x]
  | p :: r => if p.key == x.key then x :: r else p :: upsert r x
theorem putA_encA (l : List Ent) (x : Ent) : putA (encA l) (.string x.key) (.pointer (some ⟨x.a, 0, none⟩)) = encA (upsert l x) := by
  induction l with
  | nil => rfl
  | cons p l ih =>
    have e : encA (p :: l) = (.string p.key, .pointer (some ⟨p.a, 0, none⟩)) :: encA l := rfl
    rw [e, putA, upsert, ih]
    by_cases h : (p.key == x.key) = true
    · simp [Lit.sameKey, h, encA]
    · simp [Lit.sameKey, h, encA]
theorem putA_encS (l : List Ent) (x : Ent) : putA (encS l) (.string x.key) (.int .i64 x.seen) = encS (upsert l x) := by
  induction l with
  | nil => rfl
  | cons p l ih =>
    have e : encS (p :: l) = (.string p.key, .int .i64 p.seen) :: encS l := rfl
    rw [e, putA, upsert, ih]
    by_cases h : (p.key == x.key) = true
    · simp [Lit.sameKey, h, encS]
    · simp [Lit.sameKey, h, encS]
theorem upsert_mem {l : List Ent} {x e : Ent} (h : e ∈ upsert l x) : e = x ∨ e ∈ l := by
  induction l with
  | nil => simp [upsert] at h; exact .inl h
  | cons p l ih =>
    simp only [upsert] at h
    split at h
    · rcases List.mem_cons.1 h with h | h
      · exact .inl h
      · exact .inr (by simp [h])
    · rcases List.mem_cons.1 h with h | h
      · exact .inr (by simp [h])
      · rcases ih h with h | h
        · exact .inl h
        · exact .inr (by simp [h])
theorem findK_upsert (l : List Ent) (x : Ent) (k : List UInt8) : findK (upsert l x) k = if x.key == k then some x else findK l k := by
  induction l with
  | nil => simp only [upsert, findK, List.find?_cons, List.find?_nil]; split <;> simp_all
  | cons p l ih =>
    simp only [upsert]
    by_cases h : (p.key == x.key) = true
    · have e : p.key = x.key := by simpa using h
      rw [if_pos h]
      by_cases h1 : x.key = k
      · have h2 : p.key = k := e.trans h1
        simp [findK, List.find?_cons, h1]
      · have h2 : ¬ p.key = k := fun h => h1 (e.symm.trans h)
        simp [findK, List.find?_cons, h1, h2]
    · rw [if_neg h]
      have e : ¬ p.key = x.key := by simpa using h
      have hc : findK (p :: upsert l x) k = if p.key == k then some p else findK (upsert l x) k := by simp only [findK, List.find?_cons]; split <;> simp_all
      have hd : findK (p :: l) k = if p.key == k then some p else findK l k := by simp only [findK, List.find?_cons]; split <;> simp_all
      rw [hc, hd, ih]
      by_cases h1 : p.key = k
      · have h2 : ¬ x.key = k := fun h => e (h1.trans h.symm)
        simp [h1, h2]
      · simp [h1]
theorem encA_upsert_same {l : List Ent} {k : List UInt8} {e : Ent} (h : findK l k = some e) (x : Ent) (hk : x.key = k) (ha : x.a = e.a) : encA (upsert l x) = encA l := by
  subst hk
  induction l with
  | nil => simp [findK] at h
  | cons p l ih =>
    simp only [upsert]
    by_cases hp : (p.key == x.key) = true
    · have e1 : p = e := by simpa [findK, List.find?_cons, hp] using h
      subst e1
      have : p.key = x.key := by simpa using hp
      simp [hp, encA, ha, this]
    · have h2 : findK l x.key = some e := by simpa [findK, List.find?_cons, hp] using h
      have := ih h2
      simp only [hp, encA, List.map_cons] at this ⊢
      simp [this]
theorem upsert_len (l : List Ent) (x : Ent) : (upsert l x).length = if (findK l x.key).isSome then l.length else l.length + 1 := by
  induction l with
  | nil => simp [upsert, findK]
  | cons p l ih =>
    simp only [upsert]
    by_cases hp : (p.key == x.key) = true
    · simp [hp, findK, List.find?_cons]
    · have h2 : findK (p :: l) x.key = findK l x.key := by simp [findK, List.find?_cons, hp]
      rw [h2]
      simp only [hp, Bool.false_eq_true, if_false, List.length_cons, ih]
      split <;> rfl
def seeL (l : List Ent) (k : List UInt8) (now : Int) : List Ent := match findK l k with
  | none => l
  | some e => upsert l { e with seen := now }
theorem encA_len (l : List Ent) : (encA l).length = l.length := by simp [encA]
theorem encS_len (l : List Ent) : (encS l).length = l.length := by simp [encS]
theorem IsLimit.storeS {w w' : World} {b ma ms : Nat} {rate burst : Int} {l : List Ent} (h : IsLimit w b ma ms rate burst l) (x : Ent) (hA : encA (upsert l x) = encA l) (hm : MapIs w' Tryd.prog 9 ms (encS (upsert l x))) (hg : w.grownBy w' (some ms)) (hx : EntAt w b ma ms burst x) : IsLimit w' b ma ms rate burst (upsert l x) := by
  have hlt := h.lt
  have hbl := hg.block b hlt.1 (by simp; exact h.ne.2.1)
  refine ⟨by rw [hA]; exact h.mapA.kept hg (by simp; exact h.ne.2.2), hm, (World.cell?_of_block (a := ⟨b, 0, none⟩) hbl).trans h.c0, (World.cell?_of_block (a := ⟨b, 1, none⟩) hbl).trans h.c1, (World.cell?_of_block (a := ⟨b, 2, none⟩) hbl).trans h.c2, (World.cell?_of_block (a := ⟨b, 3, none⟩) hbl).trans h.c3,
    h.ne, fun e he => ?_, h.hr, h.hb⟩
  rcases upsert_mem he with rfl | he
  · exact hx.of_block (hg.block _ hx.lt (by simp; exact hx.far.2.2))
  · have := h.ents e he
    exact this.of_block (hg.block _ this.lt (by simp; exact this.far.2.2))
set_option maxRecDepth 100000 in
set_option maxHeartbeats 2000000 in
theorem see_any {w : World} {b ma ms : Nat} {rate burst : Int} {l : List Ent} (h : IsLimit w b ma ms rate burst l) (s : ByteArray) (hs : s.size ≤ maxLen) (now : Int) (hn : 0 ≤ now ∧ now ≤ 1000000) (hse : seenF l s.data.toList ≤ now) (hl : l.length ≤ 1000000) :
    Calls Tryd.prog 37 #[.pointer (some ⟨b, 0, none⟩), .string s, .int .i64 now] w fun e w' => e = .returned (.tuple #[]) ∧ IsLimit w' b ma ms rate burst (seeL l s.data.toList now) ∧ Mod (fun k => k = ms) w w' := by
  have c2 := h.c2
  have c3 := h.c3
  have H := Lib.hid h
  have HM := Lib.hid h.mapA
  have hkey := Go.WideMaps.keyOf_string_mk Tryd.underlying9 hs
  have HKEY := Lib.hid hkey
  have HF := Lib.hid (find_encA l s.data.toList)
  have HN := Lib.hid (encS_len l)
  cases hx : findK l s.data.toList with
  | none =>
    have HL : Hid (seeL l s.data.toList now = l) := by show _ = _; unfold seeL; rw [hx]
    rw [hx] at HF
    clear hkey h hx hse
    go_enter Tryd.func37, Tryd.ntmps37
    go_wp2_with (first
      | (at_lookup; refine wpList_look rfl _ _ 84 rfl 9 94 law Tryd.underlying84 _ (zeroA _) ma (encA l) rfl HM.out _ _ rfl HKEY.out ?_; rw [HF.out])
      | go_in)
    go_end0
    exact ⟨rfl, by rw [HL.out]; exact H.out, Mod.refl _ _⟩
  | some x =>
    have HL : Hid (seeL l s.data.toList now = upsert l { x with seen := now }) := by show _ = _; unfold seeL; rw [hx]
    have HX := Lib.hid hx
    have hE := h.ents x (findK_some hx).1
    have hsx : seenF l s.data.toList = x.seen := by unfold seenF; rw [hx]; rfl
    rw [hsx] at hse
    have HK := Lib.hid (findK_some hx).2
    have HE : Hid (EntAt w b ma ms burst { x with seen := now }) := ⟨hE.c0, hE.c1, hE.far, hE.hl, ⟨hE.ht.1, by have := hE.ht; simp only; omega, hn.2⟩⟩
    rw [hx] at HF
    clear hkey h hx hse hE hsx
    go_enter Tryd.func37, Tryd.ntmps37
    go_wp2_with (first
      | (at_lookup; refine wpList_look rfl _ _ 84 rfl 9 94 law Tryd.underlying84 _ (zeroA _) ma (encA l) rfl HM.out _ _ rfl HKEY.out ?_; rw [HF.out])
      | (at_mapUpdate; refine wpList_put rfl _ _ _ 85 rfl 9 3 law Tryd.underlying85 ms (encS l) rfl H.out.mapS (by rw [HN.out]; omega) _ _ _ rfl rfl HKEY.out trivial ?_; intro w2 hm2 hg2)
      | go_in)
    go_end0
    refine ⟨rfl, ?_, (Mod.refl _ _).grown hg2 (by intro k hk _; cases hk; rfl)⟩
    rw [HL.out]
    refine H.out.storeS { x with seen := now } (encA_upsert_same HX.out _ HK.out rfl) ?_ hg2 HE.out
    rw [← putA_encS]
    rw [show ({ x with seen := now } : Ent).key = s.data.toList from HK.out]; exact hm2
theorem leftF_bd {w : World} {b ma ms : Nat} {rate burst : Int} {l : List Ent} (h : IsLimit w b ma ms rate burst l) (k : List UInt8) (now : Int) (hse : seenF l k ≤ now) : 0 ≤ leftF rate burst l k now ∧ leftF rate burst l k now ≤ burst := by
  have hb := h.hb
  unfold leftF
  cases hx : findK l k with
  | none => simp only; omega
  | some x =>
    simp only
    have hE := h.ents x (findK_some hx).1
    have hsx : seenF l k = x.seen := by unfold seenF; rw [hx]; rfl
    have p1 : 0 ≤ rate * (now - x.at_) := Int.mul_nonneg (by have := h.hr; omega) (by have := hE.ht; omega)
    have := hE.hl
    omega
theorem leftF_see (rate burst : Int) (l : List Ent) (k : List UInt8) (now t : Int) : leftF rate burst (seeL l k t) k now = leftF rate burst l k now := by
  unfold seeL
  cases hx : findK l k with
  | none => rfl
  | some x =>
    have hk := (findK_some hx).2
    simp only [leftF, findK_upsert, hx, hk, beq_self_eq_true, if_true]
theorem seenF_see (l : List Ent) (k : List UInt8) (now : Int) (hn : 0 ≤ now) : seenF (seeL l k now) k ≤ now := by
  unfold seeL seenF
  cases hx : findK l k with
  | none => simp only [hx]; exact hn
  | some x =>
    have hk := (findK_some hx).2
    simp [findK_upsert, hk]
theorem check_zero {burst : Int} {l : List Ent} {k : List UInt8} {now n : Int} (h : checkE burst l k now n = 0) : 1 ≤ n ∧ n ≤ burst ∧ 0 ≤ now ∧ now ≤ 1000000 ∧ seenF l k ≤ now := by
  unfold checkE at h
  split at h
  · omega
  · split at h
    · omega
    · omega
set_option maxRecDepth 100000 in
set_option maxHeartbeats 2000000 in
theorem Left_any {w : World} {b ma ms : Nat} {rate burst : Int} {l : List Ent} (h : IsLimit w b ma ms rate burst l) (s : ByteArray) (hs : s.size ≤ maxLen) (now : Int) (hl : l.length ≤ 1000000) :
    Calls Tryd.prog 22 #[.pointer (some ⟨b, 0, none⟩), .string s, .int .i64 now] w fun e w' =>
      (checkE burst l s.data.toList now 1 ≠ 0 ∧ e = .returned (.tuple #[.int .i64 0, .iface 70 (.int .i64 (checkE burst l s.data.toList now 1))]) ∧ w = w') ∨
      (checkE burst l s.data.toList now 1 = 0 ∧ e = .returned (.tuple #[.int .i64 (leftF rate burst l s.data.toList now), .nilIface]) ∧ IsLimit w' b ma ms rate burst (seeL l s.data.toList now) ∧ Mod (fun k => k = ms) w w') := by
  have HC := Lib.hid (check_any h s hs now 1)
  have H := Lib.hid h
  clear h
  go_enter Tryd.func22, Tryd.ntmps22
  go_wp2_with fail
  refine HC.out.mono ?_
  rintro e w' ⟨rfl, ⟨hz, rfl⟩ | ⟨hz, rfl⟩⟩
  · have hq := check_zero hz
    have HZ := Lib.hid hz
    have HS := Lib.hid (see_any H.out s hs now ⟨hq.2.2.1, hq.2.2.2.1⟩ hq.2.2.2.2 hl)
    have HQ := Lib.hid hq
    clear hz hq
    go_wp2_with fail
    refine HS.out.mono ?_
    rintro e w2 ⟨rfl, h2, hM⟩
    have HH := Lib.hid (And.intro h2 hM)
    have HL := left_any h2 s hs now ⟨HQ.out.2.2.1, HQ.out.2.2.2.1⟩ (seenF_see _ _ _ HQ.out.2.2.1)
    rw [leftF_see] at HL
    have HL := Lib.hid HL
    clear h2 hM
    go_wp2_with fail
    refine HL.out.mono ?_
    rintro e w3 ⟨rfl, n, rfl⟩
    go_wp2
    go_ret2
    exact .inr ⟨HZ.out, rfl, HH.out.1.drewN n, ⟨HH.out.2.os, HH.out.2.tape, HH.out.2.output, HH.out.2.size, HH.out.2.block⟩⟩
  · have HZ := Lib.hid hz
    clear hz
    go_wp2
    go_ret2
    exact .inl ⟨HZ.out, rfl, rfl⟩
def waitF (rate left n : Int) : Int := max 0 ((n - left + rate - 1).tdiv rate)
theorem wait_eq (rate left n : Int) (h1 : -3000000 ≤ n - left + rate - 1) (h2 : n - left + rate - 1 ≤ 3000000) : waitF rate left n = if 0 < wrap64 ((n - left + rate - 1).tdiv rate) then wrap64 ((n - left + rate - 1).tdiv rate) else 0 := by
  have h := Int.natAbs_tdiv_le_natAbs (n - left + rate - 1) rate
  unfold waitF
  generalize (n - left + rate - 1).tdiv rate = q at *
  rw [IntWalk.wrap64_in q (by omega)]
  split <;> omega
set_option maxRecDepth 100000 in
set_option maxHeartbeats 4000000 in
theorem Wait_any {w : World} {b ma ms : Nat} {rate burst : Int} {l : List Ent} (h : IsLimit w b ma ms rate burst l) (s : ByteArray) (hs : s.size ≤ maxLen) (now n : Int) (hl : l.length ≤ 1000000) :
    Calls Tryd.prog 23 #[.pointer (some ⟨b, 0, none⟩), .string s, .int .i64 now, .int .i64 n] w fun e w' =>
      (checkE burst l s.data.toList now n ≠ 0 ∧ e = .returned (.tuple #[.int .i64 0, .iface 70 (.int .i64 (checkE burst l s.data.toList now n))]) ∧ w = w') ∨
      (checkE burst l s.data.toList now n = 0 ∧ e = .returned (.tuple #[.int .i64 (waitF rate (leftF rate burst l s.data.toList now) n), .nilIface]) ∧ IsLimit w' b ma ms rate burst (seeL l s.data.toList now) ∧ Mod (fun k => k = ms) w w') := by
  have HC := Lib.hid (check_any h s hs now n)
  have H := Lib.hid h
  clear h
  go_enter Tryd.func23, Tryd.ntmps23
  go_wp2_with fail
  refine HC.out.mono ?_
  rintro e w' ⟨rfl, ⟨hz, rfl⟩ | ⟨hz, rfl⟩⟩
  · have hq := check_zero hz
    have HZ := Lib.hid hz
    have HS := Lib.hid (see_any H.out s hs now ⟨hq.2.2.1, hq.2.2.2.1⟩ hq.2.2.2.2 hl)
    have HQ := Lib.hid hq
    have hlb := leftF_bd H.out s.data.toList now hq.2.2.2.2
    obtain ⟨n1, n2, _, _, _⟩ := hq
    have hr := H.out.hr
    have hbb := H.out.hb
    clear hz
    go_wp2_with fail
    refine HS.out.mono ?_
    rintro e w2 ⟨rfl, h2, hM⟩
    have HH := Lib.hid (And.intro h2 hM)
    have HL : Hid (∀ d, Calls Tryd.prog 36 #[.pointer (some ⟨b, 0, none⟩), .string s, .int .i64 now] (w2.drewN d) fun e w' => e = .returned (.int .i64 (leftF rate burst l s.data.toList now)) ∧ ∃ m, w' = (w2.drewN d).drewN m) := fun d => by
      have := left_any (h2.drewN d) s hs now ⟨HQ.out.2.2.1, HQ.out.2.2.2.1⟩ (seenF_see _ _ _ HQ.out.2.2.1)
      rw [leftF_see] at this
      exact this.mono fun e w' hh => ⟨hh.1, by obtain ⟨m, hm⟩ := hh.2; exact ⟨m, hm.symm⟩⟩
    have c0 := h2.c0
    obtain ⟨L, hL⟩ : ∃ L, leftF rate burst l s.data.toList now = L := ⟨_, rfl⟩
    rw [hL] at HL hlb
    have HLL := Lib.hid hL
    have e1 : IntKind.i64.wrap (n - L) = n - L := IntWalk.i64_in _ (by omega)
    have e2 : IntKind.i64.wrap (n - L + rate) = n - L + rate := IntWalk.i64_in _ (by omega)
    have e3 : IntKind.i64.wrap (n - L + rate - 1) = n - L + rate - 1 := IntWalk.i64_in _ (by omega)
    have hrz : (rate == 0) = false := by rw [beq_eq_false_iff_ne]; omega
    have hrz2 : 0 < rate := by omega
    have HLB := Lib.hid hlb
    clear h2 hM hL hlb
    go_wp2_with fail
    go_quiet ((go_at_call 36; exact Calls.quiet_of (HL.out _)))
    go_wp2
    all_goals go_ret2
    all_goals
      refine .inr ⟨HZ.out, ?_, HH.out.1.drewN nq, ⟨HH.out.2.os, HH.out.2.tape, HH.out.2.output, HH.out.2.size, HH.out.2.block⟩⟩
      clear e1 e2 e3
      have hlb := HLB.out
      rw [HLL.out, wait_eq rate L n (by omega) (by omega)]
      first | (rw [if_pos (by assumption)]; rfl) | (rw [if_neg (by omega)]; rfl)
  · have HZ := Lib.hid hz
    clear hz
    go_wp2
    go_ret2
    exact .inl ⟨HZ.out, rfl, rfl⟩
theorem undraw {p : Prop} {S : Nat → Prop} {w w' : World} {n : Nat} (h : p ∧ Mod S (w.drewN n) w') : p ∧ Mod S w w' := ⟨h.1, ⟨h.2.os, h.2.tape, h.2.output, h.2.size, h.2.block⟩⟩
theorem cell_old (w : World) (o : Obj) (b i : Nat) (h : b < w.heap.size) : (w.alloc o).cell? ⟨b, i, none⟩ = w.cell? ⟨b, i, none⟩ := cell_alloc w o b i h
def askL (rate burst : Int) (l : List Ent) (k : List UInt8) (now n : Int) (a : Nat) : List Ent :=
  upsert l ⟨k, a, if n ≤ leftF rate burst l k now then leftF rate burst l k now - n else leftF rate burst l k now, now, now⟩
theorem IsLimit.putBoth {w w1 w2 : World} {b ma ms : Nat} {rate burst : Int} {l : List Ent} (h : IsLimit w b ma ms rate burst l) (x : Ent) (hmA : MapIs w1 Tryd.prog 9 ma (encA (upsert l x))) (hg1 : (w.alloc (.cells #[.int .i64 x.left, .int .i64 x.at_] 96)).grownBy w1 (some ma)) (hxa : x.a = w.heap.size)
    (hmS : MapIs w2 Tryd.prog 9 ms (encS (upsert l x))) (hg2 : w1.grownBy w2 (some ms)) (hxl : 0 ≤ x.left ∧ x.left ≤ burst) (hxt : 0 ≤ x.at_ ∧ x.at_ ≤ x.seen ∧ x.seen ≤ 1000000) : IsLimit w2 b ma ms rate burst (upsert l x) ∧ Mod (fun k => k = ma ∨ k = ms) w w2 := by
  have hlt := h.lt
  have hs1 := hg1.size
  simp only [World.size_alloc] at hs1
  have old : ∀ k, k < w.heap.size → k ≠ ma → k ≠ ms → w2.heap[k]? = w.heap[k]? := fun k hk h1 h2 => by
    rw [hg2.block k (by omega) (by simp; exact h2), hg1.block k (by simp; omega) (by simp; exact h1)]
    exact Below.heap_alloc _ _ _ hk
  have hbl := old b hlt.1 h.ne.1 h.ne.2.1
  have hnew : w2.heap[w.heap.size]? = (w.alloc (.cells #[.int .i64 x.left, .int .i64 x.at_] 96)).heap[w.heap.size]? := by
    rw [hg2.block _ (by omega) (by simp; omega), hg1.block _ (by simp) (by simp; omega)]
  refine ⟨⟨hmA.kept hg2 (by simp; exact h.ne.2.2), hmS, (World.cell?_of_block (a := ⟨b, 0, none⟩) hbl).trans h.c0, (World.cell?_of_block (a := ⟨b, 1, none⟩) hbl).trans h.c1, (World.cell?_of_block (a := ⟨b, 2, none⟩) hbl).trans h.c2, (World.cell?_of_block (a := ⟨b, 3, none⟩) hbl).trans h.c3,
    h.ne, fun e he => ?_, h.hr, h.hb⟩, (((Mod.refl _ w).alloc _).grown hg1 (by intro k hk _; cases hk; exact .inl rfl)).grown hg2 (by intro k hk _; cases hk; exact .inr rfl)⟩
  rcases upsert_mem he with rfl | he
  · refine ⟨?_, ?_, by rw [hxa]; omega, hxl, hxt⟩
    · rw [hxa]; exact (World.cell?_of_block (a := ⟨w.heap.size, 0, none⟩) hnew).trans (by simp)
    · rw [hxa]; exact (World.cell?_of_block (a := ⟨w.heap.size, 1, none⟩) hnew).trans (by simp)
  · have := h.ents e he
    exact this.of_block (old _ this.lt this.far.2.1 this.far.2.2)
set_option maxRecDepth 100000 in
set_option maxHeartbeats 4000000 in
theorem Ask_bad {w : World} {b ma ms : Nat} {rate burst : Int} {l : List Ent} (h : IsLimit w b ma ms rate burst l) (s : ByteArray) (hs : s.size ≤ maxLen) (now n : Int) (hz : checkE burst l s.data.toList now n ≠ 0) :
    Calls Tryd.prog 20 #[.pointer (some ⟨b, 0, none⟩), .string s, .int .i64 now, .int .i64 n] w fun e w' => e = .returned (.tuple #[.bool false, .iface 70 (.int .i64 (checkE burst l s.data.toList now n))]) ∧ w = w' := by
  have HC := Lib.hid (check_any h s hs now n)
  have HZ := Lib.hid hz
  clear h hz
  go_enter Tryd.func20, Tryd.ntmps20
  go_wp2_with fail
  refine HC.out.mono ?_
  rintro e w' ⟨rfl, ⟨hz, rfl⟩ | ⟨hz, rfl⟩⟩
  · exact absurd hz HZ.out
  · clear hz
    go_wp2
    go_ret2
    exact ⟨rfl, rfl⟩
set_option maxRecDepth 100000 in
set_option maxHeartbeats 4000000 in
theorem Ask_full {w : World} {b ma ms : Nat} {rate burst : Int} {l : List Ent} (h : IsLimit w b ma ms rate burst l) (s : ByteArray) (hs : s.size ≤ maxLen) (now n : Int) (hz : checkE burst l s.data.toList now n = 0) (hx : findK l s.data.toList = none) (hl : 100 ≤ l.length) (hl2 : l.length ≤ 1000000) :
    Calls Tryd.prog 20 #[.pointer (some ⟨b, 0, none⟩), .string s, .int .i64 now, .int .i64 n] w fun e w' => e = .returned (.tuple #[.bool false, .iface 70 (.int .i64 4)]) ∧ w = w' := by
  have HC := Lib.hid (check_any h s hs now n)
  have HZ := Lib.hid hz
  have c2 := h.c2
  have HM := Lib.hid h.mapA
  have hkey := Go.WideMaps.keyOf_string_mk Tryd.underlying9 hs
  have HKEY := Lib.hid hkey
  have HF := Lib.hid (find_encA l s.data.toList)
  rw [hx] at HF
  have HN := Lib.hid (encA_len l)
  clear h hz hkey hx
  go_enter Tryd.func20, Tryd.ntmps20
  go_wp2_with fail
  refine HC.out.mono ?_
  rintro e w' ⟨rfl, ⟨hz, rfl⟩ | ⟨hz, rfl⟩⟩
  · clear hz
    go_wp2_with (first
      | (at_lookup; refine wpList_look rfl _ _ 84 rfl 9 94 law Tryd.underlying84 _ (zeroA _) ma (encA l) rfl HM.out _ _ rfl HKEY.out ?_; rw [HF.out])
      | (at_len; refine wpList_len_g rfl _ 84 rfl 9 94 Tryd.underlying84 ma (encA l) rfl HM.out ?_; rw [HN.out])
      | go_in)
    go_ret2
    exact ⟨rfl, rfl⟩
  · exact absurd HZ.out hz
set_option maxRecDepth 100000 in
set_option maxHeartbeats 8000000 in
theorem Ask_ok {w : World} {b ma ms : Nat} {rate burst : Int} {l : List Ent} (h : IsLimit w b ma ms rate burst l) (s : ByteArray) (hs : s.size ≤ maxLen) (now n : Int) (hz : checkE burst l s.data.toList now n = 0) (hx : (findK l s.data.toList).isSome ∨ l.length < 100) (hl2 : l.length ≤ 1000000) :
    Calls Tryd.prog 20 #[.pointer (some ⟨b, 0, none⟩), .string s, .int .i64 now, .int .i64 n] w fun e w' => e = .returned (.tuple #[.bool (decide (n ≤ leftF rate burst l s.data.toList now)), .nilIface]) ∧ ∃ a, w.heap.size ≤ a ∧ IsLimit w' b ma ms rate burst (askL rate burst l s.data.toList now n a) ∧ Mod (fun k => k = ma ∨ k = ms) w w' := by
  have HC := Lib.hid (check_any h s hs now n)
  have hq := check_zero hz
  have HC0 : Hid (Calls Tryd.prog 35 #[.pointer (some ⟨b, 0, none⟩), .string s, .int .i64 now, .int .i64 n] w fun e w' => e = .returned .nilIface ∧ w = w') := HC.out.mono fun e w' hh => ⟨by rcases hh.2 with h1 | h1; exact h1.2; exact absurd hz h1.1, hh.1⟩
  clear HC
  have H := Lib.hid h
  have HLT := Lib.hid h.lt.1
  have HNE := Lib.hid h.ne
  have c2 := h.c2
  have c3 := h.c3
  have HM := Lib.hid h.mapA
  have hkey := Go.WideMaps.keyOf_string_mk Tryd.underlying9 hs
  have HKEY := Lib.hid hkey
  have HF := Lib.hid (find_encA l s.data.toList)
  have HN := Lib.hid (encA_len l)
  have HNS := Lib.hid (encS_len l)
  have HLE := Lib.hid (left_any h s hs now ⟨hq.2.2.1, hq.2.2.2.1⟩ hq.2.2.2.2)
  have hlb := leftF_bd h s.data.toList now hq.2.2.2.2
  obtain ⟨q1, q2, q3, q4, _⟩ := hq
  have hbb := h.hb
  obtain ⟨lb1, lb2⟩ := hlb
  obtain ⟨bb1, bb2⟩ := hbb
  have HASK : Hid (∀ a, askL rate burst l s.data.toList now n a = upsert l ⟨s.data.toList, a, if n ≤ leftF rate burst l s.data.toList now then leftF rate burst l s.data.toList now - n else leftF rate burst l s.data.toList now, now, now⟩) := fun a => rfl
  obtain ⟨L, hL⟩ : ∃ L, leftF rate burst l s.data.toList now = L := ⟨_, rfl⟩
  have HLL := Lib.hid hL
  rw [hL] at HLE lb1 lb2 HASK
  clear h hz hkey hL
  have hcase : (∃ x, findK l s.data.toList = some x) ∨ (findK l s.data.toList = none ∧ l.length < 100) := by
    cases hf : findK l s.data.toList with
    | none => rw [hf] at hx; simp at hx; exact .inr ⟨rfl, hx⟩
    | some x => exact .inl ⟨x, rfl⟩
  clear hx
  rcases hcase with ⟨x, hx⟩ | ⟨hx, hl⟩
  all_goals
    rw [hx] at HF
    clear hx
    by_cases hle : n ≤ L
  all_goals
    go_enter Tryd.func20, Tryd.ntmps20
    go_wp2_with (first
      | (go_at_call 35; refine HC0.out.mono ?_; rintro e w' ⟨rfl, rfl⟩)
      | (at_lookup; refine wpList_look rfl _ _ 84 rfl 9 94 law Tryd.underlying84 _ (zeroA _) ma (encA l) rfl HM.out _ _ rfl HKEY.out ?_; rw [HF.out])
      | (at_len; refine wpList_len_g rfl _ 84 rfl 9 94 Tryd.underlying84 ma (encA l) rfl HM.out ?_; rw [HN.out])
      | (go_at_call 36; refine HLE.out.mono ?_; rintro e w2 ⟨rfl, nd, rfl⟩)
      | (at_mapUpdate; refine wpList_put rfl _ _ _ 84 rfl 9 94 law Tryd.underlying84 ma (encA l) rfl (MapIs.alloc (IsLimit.drewN H.out nd).mapA _) (by rw [HN.out]; omega) _ _ _ rfl rfl HKEY.out trivial ?_; intro w3 hm3 hg3; have hc3 := (World.cell?_of_block (a := ⟨b, 3, none⟩) (hg3.block b (by simp; exact Nat.lt_succ_of_lt HLT.out) (by simp; exact HNE.out.1))).trans ((cell_old _ _ b 3 HLT.out).trans c3); have hms3 := (IsLimit.drewN H.out nd).mapS.alloc (.cells #[.int .i64 _, .int .i64 now] 96) |>.kept hg3 (by simp; exact fun e => HNE.out.2.2 e.symm); have HM3 := Lib.hid (And.intro hm3 hg3); have HMS3 := Lib.hid hms3; clear hm3 hg3 hms3)
      | (at_mapUpdate; refine wpList_put rfl _ _ _ 85 rfl 9 3 law Tryd.underlying85 ms (encS l) rfl HMS3.out (by rw [HNS.out]; omega) _ _ _ rfl rfl HKEY.out trivial ?_; intro w4 hm4 hg4; have HM4 := Lib.hid (And.intro hm4 hg4); clear hm4 hg4))
    go_ret2
    obtain ⟨hm3, hg3⟩ := HM3.out
    obtain ⟨hm4, hg4⟩ := HM4.out
    refine ⟨by rw [HLL.out]; simp [hle]; try omega, w.heap.size, Nat.le_refl _, ?_⟩
    rw [HASK.out]
    first | rw [if_pos hle] | rw [if_neg hle] | rw [if_neg (by omega)]
    refine undraw ((H.out.drewN nd).putBoth ⟨s.data.toList, w.heap.size, _, now, now⟩ ?_ hg3 rfl ?_ hg4 (by simp only; omega) (by simp only; omega))
    · rw [← putA_encA]; exact hm3
    · rw [← putA_encS]; exact hm4
end Go.Proofs.YtfgplghjgjnggaaDoor.LimitC
