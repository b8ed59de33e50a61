/-
  Package pool's calls where the pool is the law's own: the pool goes along, whatever was there stays.
  Conditions: the bounds.
-/
import Derived.Test.YtcdhjbeeehjpiaaDoorPoolTake
import Derived.Test.YtcdhjbeeehjpiaaDoorPoolTick
namespace Go.Proofs.YtcdhjbeeehjpiaaDoor.PoolC
open Go.RowKit MapsL ModL RowsK RowsM Back LineC
set_option linter.unusedSimpArgs false
set_option linter.unusedVariables false

/-- Blocks of the law's own that are not the pool's. -/
def Free (w0 w : World) (F : (Nat → Prop) × World) (b m : Nat) (v : Value) : Prop := ∀ k, F.1 k → w0.heap.size ≤ k ∧ k < w.heap.size ∧ k ≠ b ∧ k ≠ m ∧ v.ownBlock ≠ some k ∧ w.heap[k]? = F.2.heap[k]?
/-- A pool of the law's own, apart from the blocks F, which are as they were in F's world. -/
def PS (w0 w : World) (F : (Nat → Prop) × World) (b m : Nat) (many last now : Int) (B : List (Int × ByteArray)) (L : List Link) : Prop :=
  ∃ v, IsPool w b m many last now B v L ∧ Below w0.heap.size w0 w ∧ w0.heap.size ≤ m ∧ Free w0 w F b m v
section
variable {w0 w w' : World} {F : (Nat → Prop) × World} {b m : Nat} {many last now : Int} {B : List (Int × ByteArray)} {L : List Link}
theorem Free.below {v : Value} (h : Free w0 w F b m v) (hB : Below w.heap.size w w') : Free w0 w' F b m v := fun k hk => by
  obtain ⟨h1, h2, h3, h4, h5, h6⟩ := h k hk
  exact ⟨h1, Nat.lt_of_lt_of_le h2 hB.size, h3, h4, h5, (hB.block k h2).trans h6⟩
theorem PS.below (h : PS w0 w F b m many last now B L) (hB : Below w.heap.size w w') : PS w0 w' F b m many last now B L := by
  obtain ⟨v, h1, h2, h3, h4⟩ := h
  exact ⟨v, h1.below hB, h2.trans (hB.mono h2.size), h3, h4.below hB⟩
theorem PS.same (h : PS w0 w F b m many last now B L) : ∀ k, F.1 k → w.heap[k]? = F.2.heap[k]? := by
  obtain ⟨v, h1, h2, h3, h4⟩ := h
  exact fun k hk => (h4 k hk).2.2.2.2.2
theorem PS.base (h : PS w0 w F b m many last now B L) : Below w0.heap.size w0 w := by obtain ⟨v, h1, h2, h3⟩ := h; exact h2
theorem PS.blt (h : PS w0 w F b m many last now B L) : b < w.heap.size := by obtain ⟨v, h1, h2, h3⟩ := h; exact h1.blt
/-- What Mod leaves below. -/
theorem ps_mod {v : Value} (h : IsPool w b m many last now B v L) (hB : Below w0.heap.size w0 w) (hm : w0.heap.size ≤ m) (hM : Mod (PoolS b m v) w w') : Below w0.heap.size w0 w' := by
  have hlt := h.lt
  refine hB.trans (hM.toBelow hB.size (fun k hk hS => ?_))
  rcases hS with rfl | rfl | hS
  · omega
  · omega
  · have := (h.own.lt k hS).1; omega
theorem free_mod {v v' : Value} (h : w0.heap.size ≤ m ∧ Free w0 w F b m v) (hM : Mod (PoolS b m v) w w') (hN : Near w v v') : w0.heap.size ≤ m ∧ Free w0 w' F b m v' := by
  refine ⟨h.1, fun k hk => ?_⟩
  obtain ⟨h1, h2, h3, h4, h5, h6⟩ := h.2 k hk
  refine ⟨h1, Nat.lt_of_lt_of_le h2 hM.size, h3, h4, fun e => ?_, (hM.block k h2 (fun hS => ?_)).trans h6⟩
  · rcases hN with hN | hN
    · rw [hN] at e; exact h5 e
    · have := hN k e; omega
  · rcases hS with rfl | rfl | hS
    · exact h3 rfl
    · exact h4 rfl
    · exact h5 hS
theorem near_cut (w : World) (a : Option Addr) (n n' c : Nat) : Near w (.slice a n c) (.slice a n' c) := .inl (by cases a <;> rfl)
/-- A step that writes the blocks F, or new ones. -/
theorem PS.step {G : Nat → Prop} (h : PS w0 w F b m many last now B L) (hM : Mod F.1 w w') (hG : ∀ k, G k → k < w'.heap.size ∧ (F.1 k ∨ w.heap.size ≤ k)) : PS w0 w' (G, w') b m many last now B L := by
  obtain ⟨v, h1, h2, h3, h4⟩ := h
  have hbl := h1.blt
  have hml := h1.map.lt
  refine ⟨v, h1.of_blocks (hM.block b hbl (fun hk => (h4 b hk).2.2.1 rfl)) (hM.block m hml (fun hk => (h4 m hk).2.2.2.1 rfl)) (fun k hk => hM.block k (h1.own.lt k hk).2 (fun hF => (h4 k hF).2.2.2.2.1 hk)), h2.trans (hM.toBelow h2.size (fun k hk hF => by have := (h4 k hF).1; omega)), h3, fun k hk => ?_⟩
  obtain ⟨q1, q2⟩ := hG k hk
  rcases q2 with q2 | q2
  · obtain ⟨r1, _, r3, r4, r5, _⟩ := h4 k q2
    exact ⟨r1, q1, r3, r4, r5, rfl⟩
  · exact ⟨Nat.le_trans h2.size q2, q1, by omega, by omega, fun e => by have := (h1.own.lt k e).2; omega, rfl⟩
theorem PS.rebase (h : PS w0 w F b m many last now B L) : PS w0 w (F.1, w) b m many last now B L := by
  have h' := h
  obtain ⟨v, h1, h2, h3, h4⟩ := h'
  exact h.step (Mod.refl _ _) (fun k hk => ⟨(h4 k hk).2.1, .inl hk⟩)
theorem PS.weaken {G : Nat → Prop} (h : PS w0 w F b m many last now B L) (hG : ∀ k, G k → F.1 k) : PS w0 w (G, F.2) b m many last now B L := by
  obtain ⟨v, h1, h2, h3, h4⟩ := h
  exact ⟨v, h1, h2, h3, fun k hk => h4 k (hG k hk)⟩
theorem new_ps (hB : Below w0.heap.size w0 w) (hm : 1 ≤ many ∧ many ≤ 8) : Calls Tryd.prog 8 #[.int .i64 many] w fun e w' => e = .returned (.tuple #[.pointer (some ⟨w.heap.size + 1, 0, none⟩), .nilIface]) ∧ PS w0 w' (fun _ => False, w') (w.heap.size + 1) w.heap.size many 0 0 [] [] :=
  (new_ok many w hm).mono fun e w' ⟨h1, h2, h3, _⟩ => ⟨h1, _, h2, hB.trans (h3.mono hB.size), hB.size, fun _ h => h.elim⟩
theorem take_ps (h : PS w0 w F b m many last now B L) (t : ByteArray) (ht : tokL t.data.toList = true) (hL : L.length < 1000000) (hBl : B.length < 1000000) (hmany : 1 ≤ many ∧ many ≤ 1000000) (hlast : 0 ≤ last ∧ last ≤ 1000000) (hids : ∀ x ∈ L, 0 ≤ x.id ∧ x.id ≤ 1000000) :
    Calls Tryd.prog 9 #[.pointer (some ⟨b, 0, none⟩), .string t] w fun e w' =>
      (∃ i, i < L.length ∧ (∀ j, i < j → j < L.length → isTo t (L.getD j default) = false) ∧ isTo t (L.getD i default) = true ∧ e = .returned (.tuple #[.int .i64 (L.getD i default).id, .bool false, .nilIface]) ∧ PS w0 w' F b m many last now (putB B (L.getD i default).id t) (L.take i ++ L.drop (i + 1))) ∨
      ((∀ j, j < L.length → isTo t (L.getD j default) = false) ∧
        ((many ≤ B.length ∧ L = [] ∧ e = .returned (.tuple #[.int .i64 0, .bool false, .iface 72 (.int .i64 4)]) ∧ PS w0 w' F b m many last now B L) ∨
        (e = .returned (.tuple #[.int .i64 (last + 1), .bool true, .nilIface]) ∧ ((many ≤ B.length + L.length ∧ 0 < L.length ∧ PS w0 w' F b m many (last + 1) now (putB B (last + 1) t) (L.drop 1)) ∨ (B.length + L.length < many ∧ PS w0 w' F b m many (last + 1) now (putB B (last + 1) t) L))))) := by
  obtain ⟨v, h1, h2, h3⟩ := h
  obtain ⟨a, c, rfl, _⟩ := h1.own.slice
  refine (take_any h1 t ht hL hBl hmany hlast hids).mono ?_
  rintro e w' ⟨hM, (⟨i, hi, hj, hx, he, hp⟩ | ⟨hno, (⟨hf, h0, he, hp⟩ | ⟨he, (⟨hf, h0, hp⟩ | ⟨hf, hp⟩)⟩)⟩)⟩
  · exact .inl ⟨i, hi, hj, hx, he, _, hp, ps_mod h1 h2 h3.1 hM, free_mod h3 hM (near_cut _ _ _ _ _)⟩
  · exact .inr ⟨hno, .inl ⟨by omega, List.eq_nil_of_length_eq_zero h0, he, _, hp, ps_mod h1 h2 h3.1 hM, free_mod h3 hM (near_cut _ _ _ _ _)⟩⟩
  · exact .inr ⟨hno, .inr ⟨he, .inl ⟨hf, h0, _, hp, ps_mod h1 h2 h3.1 hM, free_mod h3 hM (near_cut _ _ _ _ _)⟩⟩⟩
  · exact .inr ⟨hno, .inr ⟨he, .inr ⟨by omega, _, hp, ps_mod h1 h2 h3.1 hM, free_mod h3 hM (near_cut _ _ _ _ _)⟩⟩⟩
theorem take_bad_ps (h : PS w0 w F b m many last now B L) (t : ByteArray) (ht : tokL t.data.toList = false) :
    Calls Tryd.prog 9 #[.pointer (some ⟨b, 0, none⟩), .string t] w fun e w' => e = .returned (.tuple #[.int .i64 0, .bool false, .iface 72 (.int .i64 2)]) ∧ PS w0 w' F b m many last now B L := by
  obtain ⟨v, h1, h2, h3⟩ := h
  exact (take_bad h1 t ht).mono fun e w' ⟨he, hB⟩ => ⟨he, PS.below ⟨v, h1, h2, h3⟩ hB⟩
/-- A fresh one, where there is room. -/
theorem take_new_ps (h : PS w0 w F b m many last now B L) (t : ByteArray) (ht : tokL t.data.toList = true) (hno : ∀ x ∈ L, isTo t x = false) (hroom : B.length + L.length < many) (hmany : 1 ≤ many ∧ many ≤ 1000000) (hlast : 0 ≤ last ∧ last ≤ 1000000) (hids : ∀ x ∈ L, 0 ≤ x.id ∧ x.id ≤ 1000000) :
    Calls Tryd.prog 9 #[.pointer (some ⟨b, 0, none⟩), .string t] w fun e w' => e = .returned (.tuple #[.int .i64 (last + 1), .bool true, .nilIface]) ∧ PS w0 w' F b m many (last + 1) now (putB B (last + 1) t) L := by
  refine (take_ps h t ht (by omega) (by omega) hmany hlast hids).mono ?_
  rintro e w' (⟨i, hi, _, hx, _⟩ | ⟨_, (⟨hf, h0, he, hp⟩ | ⟨he, (⟨hf, h0, hp⟩ | ⟨hf, hp⟩)⟩)⟩)
  · rw [hno _ (getD_mem hi)] at hx; cases hx
  · omega
  · omega
  · exact ⟨he, hp⟩
theorem take_hit_ps (h : PS w0 w F b m many last now B L) (t : ByteArray) (ht : tokL t.data.toList = true) (i : Nat) (hi : i < L.length) (hx : isTo t (L.getD i default) = true) (hj : ∀ j, i < j → j < L.length → isTo t (L.getD j default) = false)
    (hL : L.length < 1000000) (hBl : B.length < 1000000) (hmany : 1 ≤ many ∧ many ≤ 1000000) (hlast : 0 ≤ last ∧ last ≤ 1000000) (hids : ∀ x ∈ L, 0 ≤ x.id ∧ x.id ≤ 1000000) :
    Calls Tryd.prog 9 #[.pointer (some ⟨b, 0, none⟩), .string t] w fun e w' => e = .returned (.tuple #[.int .i64 (L.getD i default).id, .bool false, .nilIface]) ∧ PS w0 w' F b m many last now (putB B (L.getD i default).id t) (L.take i ++ L.drop (i + 1)) := by
  refine (take_ps h t ht hL hBl hmany hlast hids).mono ?_
  rintro e w' (⟨k, hk, hkj, hkx, he, hp⟩ | ⟨hno, _⟩)
  · obtain rfl : k = i := by
      rcases Nat.lt_trichotomy k i with h | h | h
      · rw [hkj i h hi] at hx; cases hx
      · exact h
      · rw [hj k h hk] at hkx; cases hkx
    exact ⟨he, hp⟩
  · rw [hno i hi] at hx; cases hx
theorem take_full_ps (h : PS w0 w F b m many last now B []) (t : ByteArray) (ht : tokL t.data.toList = true) (hBl : B.length < 1000000) (hfull : many ≤ B.length) (hmany : 1 ≤ many ∧ many ≤ 1000000 := by omega) (hlast : 0 ≤ last ∧ last ≤ 1000000 := by omega) :
    Calls Tryd.prog 9 #[.pointer (some ⟨b, 0, none⟩), .string t] w fun e w' => e = .returned (.tuple #[.int .i64 0, .bool false, .iface 72 (.int .i64 4)]) ∧ PS w0 w' F b m many last now B [] := by
  refine (take_ps h t ht (by simp) hBl hmany hlast (fun _ h => by cases h)).mono ?_
  rintro e w' (⟨i, hi, _⟩ | ⟨_, (⟨hf, h0, he, hp⟩ | ⟨he, (⟨hf, h0, hp⟩ | ⟨hf, hp⟩)⟩)⟩)
  · simp at hi
  · exact ⟨he, hp⟩
  · simp at h0
  · simp at hf; omega
theorem back_ps (h : PS w0 w F b m many last now B L) (id : Int) (hid : -9223372036854775808 ≤ id ∧ id ≤ 9223372036854775807) (t : ByteArray) (hx : findB B id = some t) (good : Bool) (hL : L.length < 1000000) :
    Calls Tryd.prog 11 #[.pointer (some ⟨b, 0, none⟩), .int .i64 id, .bool good] w fun e w' => e = .returned .nilIface ∧ PS w0 w' F b m many last now (delB B id) (if good then L ++ [⟨id, now, t⟩] else L) := by
  obtain ⟨v, h1, h2, h3⟩ := h
  cases good with
  | true =>
    refine (back_good h1 hL id hid t hx).mono ?_
    rintro e w' ⟨v', he, hp, hN, hM⟩
    exact ⟨he, v', hp, ps_mod h1 h2 h3.1 hM, free_mod h3 hM hN⟩
  | false =>
    refine (back_bad h1 id hid t hx).mono ?_
    rintro e w' ⟨he, hp, hM⟩
    exact ⟨he, v, hp, ps_mod h1 h2 h3.1 hM, free_mod h3 hM (.inl rfl)⟩
theorem back_none_ps (h : PS w0 w F b m many last now B L) (id : Int) (hid : -9223372036854775808 ≤ id ∧ id ≤ 9223372036854775807) (good : Bool) (hx : findB B id = none) :
    Calls Tryd.prog 11 #[.pointer (some ⟨b, 0, none⟩), .int .i64 id, .bool good] w fun e w' => e = .returned (.iface 72 (.int .i64 5)) ∧ w = w' := by
  obtain ⟨v, h1, h2, h3⟩ := h
  exact back_none h1 id hid good hx
theorem busy_ps (h : PS w0 w F b m many last now B L) : Calls Tryd.prog 12 #[.pointer (some ⟨b, 0, none⟩)] w fun e w' => e = .returned (.int .i64 B.length) ∧ w = w' := by
  obtain ⟨v, h1, h2, h3⟩ := h
  exact busy_any h1
theorem idle_ps (h : PS w0 w F b m many last now B L) (t : ByteArray) (hL : L.length < 1000000) : Calls Tryd.prog 13 #[.pointer (some ⟨b, 0, none⟩), .string t] w fun e w' => e = .returned (.int .i64 (L.filter (isTo t)).length) ∧ PS w0 w' F b m many last now B L := by
  obtain ⟨v, h1, h2, h3⟩ := h
  exact (idle_any h1 t hL).mono fun e w' ⟨he, hB⟩ => ⟨he, PS.below ⟨v, h1, h2, h3⟩ hB⟩
/-- Tick, where it is heard. -/
theorem tick_ps (h : PS w0 w F b m many last now B L) (t old : Int) (hn : 0 ≤ t ∧ t ≤ 1000000) (ho : 0 ≤ old ∧ old ≤ 1000000) (hl : now ≤ t) (h0 : 0 ≤ now) (hL : L.length < 1000000) (hx : ∀ x ∈ L, 0 ≤ x.at_ ∧ x.at_ ≤ 1000000) :
    Calls Tryd.prog 14 #[.pointer (some ⟨b, 0, none⟩), .int .i64 t, .int .i64 old] w fun e w' => ∃ ga gn gc, e = .returned (.tuple #[.slice ga gn gc, .nilIface]) ∧ RowsL.Own w' w.heap.size 3 (.slice ga gn gc) ((goneL t old L).map (Value.int .i64)) ∧ PS w0 w' F b m many last t B (L.filter fun x => !goneB t old x) := by
  obtain ⟨v, h1, h2, h3⟩ := h
  refine (tick_ok h1 t old hn ho hl h0 hL hx).mono ?_
  rintro e w' ⟨ga, gn, gc, v', he, hg, hp, hN, hM⟩
  exact ⟨ga, gn, gc, he, hg, v', hp, ps_mod h1 h2 h3.1 hM, free_mod h3 hM (.inl hN)⟩
end
theorem goneL_len (t old : Int) (L : List Link) : (goneL t old L).length = (L.filter (goneB t old)).length := by simp [goneL]
theorem own_len {w : World} {base : Nat} {e : TypeId} {ga : Option Addr} {gn gc : Nat} {xs : List Value} (h : RowsL.Own w base e (.slice ga gn gc) xs) : gn = xs.length := by
  obtain ⟨a, c, e, _⟩ := h.slice
  simp only [Value.slice.injEq] at e
  exact e.2.1
end Go.Proofs.YtcdhjbeeehjpiaaDoor.PoolC
