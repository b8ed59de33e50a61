/-
  Contracts of package pool over this seat's translation: New, Busy, Idle, Back.
  Conditions: where the pool lies; the bounds.
-/
import Derived.Test.YtcdhjbeeehjpiaaDoorLinkDel
import Derived.Test.YtcdhjbeeehjpiaaDoorMaps
import Derived.Test.YtcdhjbeeehjpiaaDoorMod
import Derived.Deep.QuietTactic
import Derived.BigQuiet
import Derived.Lib.Hide
namespace Go.Proofs.YtcdhjbeeehjpiaaDoor.PoolC
open Go.RowKit MapsL ModL RowsK RowsM Back
set_option linter.unusedSimpArgs false
set_option linter.unusedVariables false

theorem law : Maps.Keyed Tryd.prog 3 := Maps.int_keyed Tryd.underlying3
theorem zeroS (w : World) : (zeroValue 9).run Tryd.prog w = .ok (.string ⟨#[]⟩) w := by kernel_rfl
/-- Who is busy: its number, whereto. -/
def encB (B : List (Int × ByteArray)) : AL := B.map fun p => (.int .i64 p.1, .string p.2)
theorem encB_len (B : List (Int × ByteArray)) : (encB B).length = B.length := by simp [encB]
/-- A pool in block b, its map in block m. -/
structure IsPool (w : World) (b m : Nat) (many last now : Int) (B : List (Int × ByteArray)) (v : Value) (L : List Link) : Prop where
  c0 : w.cell? ⟨b, 0, none⟩ = some (.int .i64 many)
  c1 : w.cell? ⟨b, 1, none⟩ = some (.int .i64 last)
  c2 : w.cell? ⟨b, 2, none⟩ = some (.int .i64 now)
  c3 : w.cell? ⟨b, 3, none⟩ = some (.map (some m))
  c4 : w.cell? ⟨b, 4, none⟩ = some v
  thaw : ∀ j, w.frozen? ⟨b, j, none⟩ = false
  map : MapIs w Tryd.prog 3 m (encB B)
  own : RowsK.Own encL w (b + 1) 82 v L
  lt : m < b
theorem IsPool.blt {w : World} {b m : Nat} {many last now : Int} {B : List (Int × ByteArray)} {v : Value} {L : List Link} (h : IsPool w b m many last now B v L) : b < w.heap.size := block_lt_of_cell h.c0
/-- What stays where its blocks stay. -/
theorem IsPool.of_blocks {w w' : World} {b m : Nat} {many last now : Int} {B : List (Int × ByteArray)} {v : Value} {L : List Link} (h : IsPool w b m many last now B v L) (hb : w'.heap[b]? = w.heap[b]?) (hm : w'.heap[m]? = w.heap[m]?) (hv : ∀ k, v.ownBlock = some k → w'.heap[k]? = w.heap[k]?) : IsPool w' b m many last now B v L :=
  ⟨(World.cell?_of_block (a := ⟨b, 0, none⟩) hb).trans h.c0, (World.cell?_of_block (a := ⟨b, 1, none⟩) hb).trans h.c1, (World.cell?_of_block (a := ⟨b, 2, none⟩) hb).trans h.c2, (World.cell?_of_block (a := ⟨b, 3, none⟩) hb).trans h.c3, (World.cell?_of_block (a := ⟨b, 4, none⟩) hb).trans h.c4,
    fun j => (World.frozen?_of_block (a := ⟨b, j, none⟩) hb).trans (h.thaw j), h.map.of_block hm, h.own.of_block hv, h.lt⟩
theorem IsPool.below {w w' : World} {b m : Nat} {many last now : Int} {B : List (Int × ByteArray)} {v : Value} {L : List Link} (h : IsPool w b m many last now B v L) (hB : Below w.heap.size w w') : IsPool w' b m many last now B v L :=
  h.of_blocks (hB.block _ h.blt) (hB.block _ h.map.lt) (fun k hk => hB.block _ (h.own.lt k hk).2)
theorem new_bad (many : Int) (w : World) (h : many < 1 ∨ 8 < many) : Calls Tryd.prog 8 #[.int .i64 many] w fun e w' => e = .returned (.tuple #[.pointer none, .iface 72 (.int .i64 1)]) ∧ w = w' := by
  by_cases h1 : many < 1
  · go_enter Tryd.func8, Tryd.ntmps8
    go_wp2
    go_ret2
    exact ⟨rfl, rfl⟩
  · have h2 : 8 < many := by omega
    go_enter Tryd.func8, Tryd.ntmps8
    go_wp2
    go_ret2
    exact ⟨rfl, rfl⟩
theorem new_ok (many : Int) (w : World) (h : 1 ≤ many ∧ many ≤ 8) : Calls Tryd.prog 8 #[.int .i64 many] w fun e w' => e = .returned (.tuple #[.pointer (some ⟨w.heap.size + 1, 0, none⟩), .nilIface]) ∧ IsPool w' (w.heap.size + 1) w.heap.size many 0 0 [] (.slice none 0 0) [] ∧ Below w.heap.size w w' ∧ w'.heap.size = w.heap.size + 2 := by
  obtain ⟨h1, h2⟩ := h
  have h3 : ¬ many < 1 := by omega
  have h4 : ¬ 8 < many := by omega
  have hmm := @run_makeMap Tryd.prog
  go_enter Tryd.func8, Tryd.ntmps8
  go_wp2
  go_ret2
  refine ⟨rfl, ⟨by simp, by simp, by simp, by simp, by simp, fun j => ?_, (MapIs.made w _ _).alloc _, RowsK.Own.nil _ _ _ _, by omega⟩, ((Below.refl _ _).alloc (Nat.le_refl _) _).alloc (by simp) _, by simp⟩
  exact World.frozen?_alloc_at _ _ _ _ (by simp)
theorem busy_any {w : World} {b m : Nat} {many last now : Int} {B : List (Int × ByteArray)} {v : Value} {L : List Link} (h : IsPool w b m many last now B v L) :
    Calls Tryd.prog 12 #[.pointer (some ⟨b, 0, none⟩)] w fun e w' => e = .returned (.int .i64 B.length) ∧ w = w' := by
  have c3 := h.c3
  have HM := Lib.hid h.map
  have HN := Lib.hid (encB_len B)
  clear h
  go_enter Tryd.func12, Tryd.ntmps12
  go_wp2_with (at_len; refine wpList_len rfl _ 73 rfl 3 9 Tryd.underlying73 m (encB B) rfl HM.out ?_; rw [HN.out])
  go_ret
  exact ⟨rfl, rfl⟩
def isTo (t : ByteArray) (x : Link) : Bool := x.to.toList == t.toList
/-- The cells of an owned row's link. -/
theorem link_cells {w : World} {base : Nat} {a : Option Addr} {n c j : Nat} {L : List Link} (h : RowsK.Own encL w base 82 (.slice a n c) L) (hj : j < n) : L.length = n ∧ ∃ g, a = some ⟨g, 0, none⟩ ∧ base ≤ g ∧ g < w.heap.size ∧
    w.cell? ⟨g, j * 3, none⟩ = some (.int .i64 (L.getD j default).id) ∧ w.cell? ⟨g, j * 3 + 1, none⟩ = some (.int .i64 (L.getD j default).at_) ∧ w.cell? ⟨g, j * 3 + 2, none⟩ = some (.string (L.getD j default).to) := by
  have hn : L.length = n := by
    obtain ⟨a', c', e, _⟩ := h.slice
    simp only [Value.slice.injEq] at e
    exact e.2.1.symm
  obtain ⟨g, c', e, _, _, h1, h2, hc⟩ := h.slice1 n hn (by omega)
  simp only [Value.slice.injEq] at e
  obtain ⟨rfl, _, rfl⟩ := e
  have hj' : j < L.length := by omega
  have hx : L.getD j default = L[j] := by rw [List.getD_eq_getElem?_getD, List.getElem?_eq_getElem hj']; rfl
  rw [hx]
  exact ⟨hn, g, rfl, h1, h2, hc j hj' 0 (by decide), hc j hj' 1 (by decide), hc j hj' 2 (by decide)⟩
set_option maxRecDepth 100000 in
set_option maxHeartbeats 4000000 in
theorem idle_any {w : World} {b m : Nat} {many last now : Int} {B : List (Int × ByteArray)} {v : Value} {L : List Link} (h : IsPool w b m many last now B v L) (t : ByteArray) (hL : L.length < 1000000) :
    Calls Tryd.prog 13 #[.pointer (some ⟨b, 0, none⟩), .string t] w fun e w' => e = .returned (.int .i64 (L.filter (isTo t)).length) ∧ Below w.heap.size w w' := by
  have hO := h.own
  have c4 := h.c4
  obtain ⟨a, c, e, h1, h2, _, _⟩ := hO.slice
  subst e
  obtain ⟨n, hn⟩ : ∃ n, L.length = n := ⟨_, rfl⟩
  rw [hn] at hO c4 h1 hL
  have HO := Lib.hid hO
  have HN := Lib.hid hn
  clear h hO hn
  go_enter Tryd.func13, Tryd.ntmps13
  go_wp2_with fail
  go_loopw [5, 13] (fun kv iv wr => ∃ i : Nat, iv = .int .i64 i ∧ kv = .int .i64 ((L.take i).filter (isTo t)).length ∧ i ≤ n ∧ Hid (Below w.heap.size w wr)) (fun _ iv _ => n - (intOf iv).toNat)
  case atStart => exact ⟨0, rfl, rfl, by omega, Below.refl _ _⟩
  case round =>
    obtain ⟨i, rfl, rfl, hi, HB⟩ := hrel
    have hsz := HB.out.size
    by_cases hlt : i < n
    · obtain ⟨_, g, rfl, _, hg, d0, d1, d2⟩ := link_cells (own_below HO.out HB.out) hlt
      have hst : (L.take (i + 1)).filter (isTo t) = (L.take i).filter (isTo t) ++ (if isTo t (L.getD i default) then [L.getD i default] else []) := by
        have hil : i < L.length := by rw [HN.out]; exact hlt
        rw [List.take_succ_eq_append_getElem hil, List.filter_append, List.getD_eq_getElem?_getD, List.getElem?_eq_getElem hil]
        show _ ++ [L[i]].filter (isTo t) = _ ++ (if isTo t L[i] then [L[i]] else [])
        cases h : isTo t L[i] <;> simp [h]
      have hcl : ((L.take i).filter (isTo t)).length ≤ i := Nat.le_trans (List.length_filter_le _ _) (by rw [List.length_take]; omega)
      obtain ⟨xi, xa, xt, hx⟩ : ∃ xi xa xt, L.getD i default = ⟨xi, xa, xt⟩ := ⟨_, _, _, rfl⟩
      rw [hx] at d0 d1 d2 hst
      simp only at d0 d1 d2
      have HST := Lib.hid hst
      generalize hq : ((L.take i).filter (isTo t)).length = q at *
      have HQ := Lib.hid hq
      clear hst hx hq
      have hi0 : (0 : Int) ≤ (i : Int) := by omega
      have hi1 : (i : Int) < (n : Int) := by omega
      rcases he : (xt.toList == t.toList) with _ | _
      · go_wp2_with fail
        go_roundw
        case measure => simp [intOf]; omega
        case rel => exact ⟨i + 1, (by go_num), (by rw [HST.out]; simp [isTo, he, HQ.out]), by omega, HB.out.alloc hsz _⟩
      · go_wp2_with fail
        go_roundw
        case measure => simp [intOf]; omega
        case rel => exact ⟨i + 1, (by go_num), (by rw [HST.out]; simp [isTo, he, HQ.out]), by omega, HB.out.alloc hsz _⟩
    · have hin : i = n := by omega
      have hnl : ¬ (i : Int) < (n : Int) := by omega
      go_wp2_with fail
      go_ret
      have e : L.take n = L := by rw [← HN.out]; exact List.take_length
      rw [e]
      exact ⟨rfl, HB.out⟩
def findB (B : List (Int × ByteArray)) (id : Int) : Option ByteArray := (B.find? fun p => p.1 == id).map (·.2)
def delB (B : List (Int × ByteArray)) (id : Int) : List (Int × ByteArray) := B.filter fun p => !(p.1 == id)
theorem key_same (x id : Int) : (Lit.int .i64 x).sameKey (.int .i64 id) = (x == id) := by rw [show (Lit.int .i64 x).sameKey (.int .i64 id) = decide (x = id) by simp [Lit.sameKey]]; rfl
theorem find_encB (B : List (Int × ByteArray)) (id : Int) : find (encB B) (.int .i64 id) = (findB B id).map Value.string := by
  induction B with
  | nil => rfl
  | cons p B ih =>
    have e : encB (p :: B) = (.int .i64 p.1, .string p.2) :: encB B := rfl
    rw [e, find_cons, key_same, findB, List.find?_cons]
    cases h : (p.1 == id)
    · simp only [Bool.false_eq_true, if_false]; exact ih
    · rfl
theorem delA_encB (B : List (Int × ByteArray)) (id : Int) : delA (encB B) (.int .i64 id) = encB (delB B id) := by
  induction B with
  | nil => rfl
  | cons p B ih =>
    have e : encB (p :: B) = (.int .i64 p.1, .string p.2) :: encB B := rfl
    have ih' : List.filter (fun p => !p.1.sameKey (.int .i64 id)) (encB B) = encB (delB B id) := ih
    rw [e, delA, delB, List.filter_cons, List.filter_cons, key_same]
    cases h : (p.1 == id)
    · simp only [Bool.not_false, if_true, ih']; rfl
    · simp only [Bool.not_true, Bool.false_eq_true, if_false, ih']; rfl
theorem mod_turned {w w' : World} {m : Nat} (h : w.mapTurned w' m) : Mod (fun k => k = m) w w' := by
  obtain ⟨es, clock, es', clock', h1, rfl⟩ := h
  refine ⟨rfl, rfl, rfl, by simp [Go.ChangeMaps.setBlock], fun k hk hn => ?_⟩
  simp only [Go.ChangeMaps.setBlock]
  rw [Array.getElem?_setIfInBounds_ne (fun e => hn e.symm)]
/-- The pool's own blocks. -/
def PoolS (b m : Nat) (v : Value) (k : Nat) : Prop := k = b ∨ k = m ∨ v.ownBlock = some k
/-- The row lies where it lay, or anew. -/
def Near (w : World) (v v' : Value) : Prop := v'.ownBlock = v.ownBlock ∨ ∀ k, v'.ownBlock = some k → w.heap.size ≤ k
theorem back_none {w : World} {b m : Nat} {many last now : Int} {B : List (Int × ByteArray)} {v : Value} {L : List Link} (h : IsPool w b m many last now B v L) (id : Int) (hid : -9223372036854775808 ≤ id ∧ id ≤ 9223372036854775807) (good : Bool) (hx : findB B id = none) :
    Calls Tryd.prog 11 #[.pointer (some ⟨b, 0, none⟩), .int .i64 id, .bool good] w fun e w' => e = .returned (.iface 72 (.int .i64 5)) ∧ w = w' := by
  have c3 := h.c3
  have HM := Lib.hid h.map
  have hkey := Maps.keyOf_int_mk Tryd.underlying3 (WalkArith.wf_i64 hid)
  have HKEY := Lib.hid hkey
  have hff : find (encB B) (.int .i64 id) = none := by rw [find_encB, hx]; rfl
  clear hkey h hx
  go_enter Tryd.func11, Tryd.ntmps11
  go_wp2_with (at_lookup; refine wpList_look_ok rfl _ _ 73 rfl 3 9 law Tryd.underlying73 _ (zeroS _) m (encB B) rfl HM.out _ _ rfl HKEY.out ?_; rw [hff])
  go_ret
  exact ⟨rfl, rfl⟩
/-- The pool behind a delete out of its map. -/
theorem IsPool.del {w w2 : World} {b m : Nat} {many last now : Int} {B B2 : List (Int × ByteArray)} {v : Value} {L : List Link} (h : IsPool w b m many last now B v L) (hM : Mod (fun k => k = m) w w2) (hm : MapIs w2 Tryd.prog 3 m (encB B2)) : IsPool w2 b m many last now B2 v L := by
  have hlt := h.lt
  have hb := hM.block b h.blt (by omega)
  exact ⟨(World.cell?_of_block (a := ⟨b, 0, none⟩) hb).trans h.c0, (World.cell?_of_block (a := ⟨b, 1, none⟩) hb).trans h.c1, (World.cell?_of_block (a := ⟨b, 2, none⟩) hb).trans h.c2, (World.cell?_of_block (a := ⟨b, 3, none⟩) hb).trans h.c3, (World.cell?_of_block (a := ⟨b, 4, none⟩) hb).trans h.c4,
    fun j => (World.frozen?_of_block (a := ⟨b, j, none⟩) hb).trans (h.thaw j), hm, h.own.of_block (fun k hk => hM.block k (h.own.lt k hk).2 (by have := (h.own.lt k hk).1; omega)), h.lt⟩
/-- The pool behind a store of another row. -/
theorem IsPool.row {w w2 : World} {b m : Nat} {many last now : Int} {B : List (Int × ByteArray)} {v v2 : Value} {L L2 : List Link} (h : IsPool w b m many last now B v L) (hg : w.grownBy w2 v.ownBlock) (ho : RowsK.Own encL w2 (b + 1) 82 v2 L2) : IsPool (w2.setCell ⟨b, 4, none⟩ v2) b m many last now B v2 L2 := by
  have hlt := h.lt
  have hvb : ∀ k, v.ownBlock = some k → b < k := fun k hk => (h.own.lt k hk).1
  have hb : w2.heap[b]? = w.heap[b]? := hg.block b h.blt (fun e => by have := hvb b e.symm; omega)
  have hm : w2.heap[m]? = w.heap[m]? := hg.block m h.map.lt (fun e => by have := hvb m e.symm; omega)
  have hc : ∀ j, w2.cell? ⟨b, j, none⟩ = w.cell? ⟨b, j, none⟩ := fun j => World.cell?_of_block (a := ⟨b, j, none⟩) hb
  have hne : ∀ j, j ≠ 4 → (w2.setCell ⟨b, 4, none⟩ v2).cell? ⟨b, j, none⟩ = w.cell? ⟨b, j, none⟩ := fun j hj => (World.cell?_setCell_other w2 ⟨b, 4, none⟩ ⟨b, j, none⟩ v2 (fun e => hj (congrArg Addr.off e).symm)).trans (hc j)
  refine ⟨(hne 0 (by decide)).trans h.c0, (hne 1 (by decide)).trans h.c1, (hne 2 (by decide)).trans h.c2, (hne 3 (by decide)).trans h.c3, World.cell?_setCell_same _ _ _ ((hc 4).trans h.c4), fun j => ?_, (h.map.of_block hm).setCell _ _ (by show b ≠ m; omega), ho.setCell _ _ (fun e => by have := (ho.lt b e).1; omega), h.lt⟩
  rw [World.frozen?_setCell]
  exact (World.frozen?_of_block (a := ⟨b, j, none⟩) hb).trans (h.thaw j)
theorem back_bad {w : World} {b m : Nat} {many last now : Int} {B : List (Int × ByteArray)} {v : Value} {L : List Link} (h : IsPool w b m many last now B v L) (id : Int) (hid : -9223372036854775808 ≤ id ∧ id ≤ 9223372036854775807) (t : ByteArray) (hx : findB B id = some t) :
    Calls Tryd.prog 11 #[.pointer (some ⟨b, 0, none⟩), .int .i64 id, .bool false] w fun e w' => e = .returned .nilIface ∧ IsPool w' b m many last now (delB B id) v L ∧ Mod (PoolS b m v) w w' := by
  have c3 := h.c3
  have H := Lib.hid h
  have HM := Lib.hid h.map
  have hkey := Maps.keyOf_int_mk Tryd.underlying3 (WalkArith.wf_i64 hid)
  have HKEY := Lib.hid hkey
  have hff : find (encB B) (.int .i64 id) = some (.string t) := by rw [find_encB, hx]; rfl
  clear hkey h hx
  go_enter Tryd.func11, Tryd.ntmps11
  go_wp2_with (first
    | (at_lookup; refine wpList_look_ok rfl _ _ 73 rfl 3 9 law Tryd.underlying73 _ (zeroS _) m (encB B) rfl HM.out _ _ rfl HKEY.out ?_; rw [hff])
    | (at_delete; refine MapsL.wpList_del rfl _ _ 73 3 rfl 9 law Tryd.underlying73 m _ rfl HM.out _ _ rfl HKEY.out ?_; intro w2 hm2 ht2; have HM2 := Lib.hid hm2; have HT2 := Lib.hid ht2; clear hm2 ht2))
  go_ret
  have hM := mod_turned HT2.out
  exact ⟨rfl, H.out.del hM (by rw [← delA_encB]; exact HM2.out), hM.mono (fun k _ hk => .inr (.inl hk))⟩
set_option maxRecDepth 100000 in
set_option maxHeartbeats 4000000 in
theorem back_good {w : World} {b m : Nat} {many last now : Int} {B : List (Int × ByteArray)} {v : Value} {L : List Link} (h : IsPool w b m many last now B v L) (hL : L.length < 1000000) (id : Int) (hid : -9223372036854775808 ≤ id ∧ id ≤ 9223372036854775807) (t : ByteArray) (hx : findB B id = some t) :
    Calls Tryd.prog 11 #[.pointer (some ⟨b, 0, none⟩), .int .i64 id, .bool true] w fun e w' => ∃ v', e = .returned .nilIface ∧ IsPool w' b m many last now (delB B id) v' (L ++ [⟨id, now, t⟩]) ∧ Near w v v' ∧ Mod (PoolS b m v) w w' := by
  have c3 := h.c3
  have H := Lib.hid h
  have HM := Lib.hid h.map
  have hkey := Maps.keyOf_int_mk Tryd.underlying3 (WalkArith.wf_i64 hid)
  have HKEY := Lib.hid hkey
  have hff : find (encB B) (.int .i64 id) = some (.string t) := by rw [find_encB, hx]; rfl
  have HA : Hid (∀ w2, w.mapTurned w2 m → MapIs w2 Tryd.prog 3 m (encB (delB B id)) → ∃ a n c a' n' c' W3, v = .slice a n c ∧ b < w2.heap.size ∧ w2.cell? ⟨b, 2, none⟩ = some (.int .i64 now) ∧ w2.cell? ⟨b, 4, none⟩ = some (.slice a n c) ∧
      (Builtin.append_ #[74, 74] 74 #[.slice a n c, .slice (some ⟨w2.heap.size, 0, none⟩) 1 1]).run Tryd.prog (w2.drew.alloc (.cells #[.int .i64 id, .int .i64 now, .string t] 82)) = .ok (.slice a' n' c') W3 ∧ W3.cell? ⟨b, 4, none⟩ = some (.slice a n c) ∧ W3.frozen? ⟨b, 4, none⟩ = false ∧
      IsPool (W3.setCell ⟨b, 4, none⟩ (.slice a' n' c')) b m many last now (delB B id) (.slice a' n' c') (L ++ [⟨id, now, t⟩]) ∧ Near w v (.slice a' n' c') ∧ Mod (PoolS b m v) w (W3.setCell ⟨b, 4, none⟩ (.slice a' n' c'))) := by
    intro w2 ht hm
    have hM := mod_turned ht
    have h2 := h.del hM hm
    have h3 : IsPool (w2.drew.alloc (.cells #[.int .i64 id, .int .i64 now, .string t] 82)) b m many last now (delB B id) v L := h2.below (((Below.refl _ _).drew).alloc (Nat.le_refl _) _)
    have hlit := RowsK.Own.lit (E := encL) (e := 82) (b := w2.heap.size) w2.drew #[.int .i64 id, .int .i64 now, .string t] [⟨id, now, t⟩] (Nat.le_refl _) (by simp) rfl
    obtain ⟨v', W3, hr, ho, hg, hwh⟩ := run_append_where elemL 74 (b + 1) h3.own _ _ hlit.at_ (by simp; omega) (by have := h3.blt; omega)
    obtain ⟨a, n, c, rfl⟩ := own_form h.own
    obtain ⟨a', n', c', rfl⟩ := own_form ho
    have hb : W3.heap[b]? = (w2.drew.alloc (.cells #[.int .i64 id, .int .i64 now, .string t] 82)).heap[b]? := hg.block b h3.blt (fun e => by have := (h3.own.lt b e.symm).1; omega)
    have hsz : w.heap.size ≤ w2.heap.size := hM.size
    refine ⟨a, n, c, a', n', c', W3, rfl, h2.blt, h2.c2, h2.c4, hr, (World.cell?_of_block (a := ⟨b, 4, none⟩) hb).trans h3.c4, (World.frozen?_of_block (a := ⟨b, 4, none⟩) hb).trans (h3.thaw 4), h3.row hg ho, ?_, ?_⟩
    · rcases hwh with e | e
      · exact .inl e
      · refine .inr fun k hk => ?_
        rw [e] at hk
        have := Option.some.inj hk
        simp at this
        omega
    · exact ((((hM.mono (fun k _ hk => .inr (.inl hk))).drew.alloc _).grown hg (fun k hk _ => .inr (.inr hk))).setCell (fun _ => .inl rfl) _)
  clear hkey h hx
  go_enter Tryd.func11, Tryd.ntmps11
  go_wp2_with (first
    | (at_lookup; refine wpList_look_ok rfl _ _ 73 rfl 3 9 law Tryd.underlying73 _ (zeroS _) m (encB B) rfl HM.out _ _ rfl HKEY.out ?_; rw [hff])
    | (at_delete; refine MapsL.wpList_del rfl _ _ 73 3 rfl 9 law Tryd.underlying73 m _ rfl HM.out _ _ rfl HKEY.out ?_; intro w2 hm2 ht2; obtain ⟨a, n, c, a', n', c', W3, rfl, kb, k2, k4, hr, k5, k6, hP, hN, hMd⟩ := HA.out w2 ht2 (by rw [← delA_encB]; exact hm2); have HP := Lib.hid hP; have HN := Lib.hid hN; have HMD := Lib.hid hMd; have HR := Lib.hid hr; clear hm2 ht2 hP hN hMd hr))
  have mixed : Tryd.prog.follows Departure.mixedOrders = true := by kernel_rfl
  go_region_law_o (refine step_append_run rfl _ _ 74 rfl _ _ (by simp [Act.eval, Act.put]) (by simp [Act.eval, Act.put]) HR.out ?_)
  all_goals (go_wp2_with fail)
  all_goals go_ret
  all_goals exact ⟨_, rfl, HP.out, HN.out, HMD.out⟩
end Go.Proofs.YtcdhjbeeehjpiaaDoor.PoolC
