/-
  Package pool's calls where the pool is the law's own: the pool goes along, whatever was there stays.
  Conditions: the bounds.
-/
import Derived.Test.YtcdhjbeeehjpiaaDoorPoolTake
import Derived.Test.YtcdhjbeeehjpiaaDoorPoolTick
namespace Go.Proofs.YtcdhjbeeehjpiaaDoor.PoolC
open Go.RowKit MapsL ModL RowsK RowsM Back LineC
set_option linter.unusedSimpArgs false
set_option linter.unusedVariables false

/-- A pool of the law's own. -/
def PS (w0 w : World) (b m : Nat) (many last now : Int) (B : List (Int × ByteArray)) (L : List Link) : Prop :=
  ∃ v, IsPool w b m many last now B v L ∧ Below w0.heap.size w0 w ∧ w0.heap.size ≤ m
section
variable {w0 w w' : World} {b m : Nat} {many last now : Int} {B : List (Int × ByteArray)} {L : List Link}
theorem PS.below (h : PS w0 w b m many last now B L) (hB : Below w.heap.size w w') : PS w0 w' b m many last now B L := by
  obtain ⟨v, h1, h2, h3⟩ := h
  exact ⟨v, h1.below hB, h2.trans (hB.mono h2.size), h3⟩
theorem PS.base (h : PS w0 w b m many last now B L) : Below w0.heap.size w0 w := by obtain ⟨v, h1, h2, h3⟩ := h; exact h2
theorem PS.blt (h : PS w0 w b m many last now B L) : b < w.heap.size := by obtain ⟨v, h1, h2, h3⟩ := h; exact h1.blt
/-- What Mod leaves below. -/
theorem ps_mod {v : Value} (h : IsPool w b m many last now B v L) (hB : Below w0.heap.size w0 w) (hm : w0.heap.size ≤ m) (hM : Mod (PoolS b m v) w w') : Below w0.heap.size w0 w' := by
  have hlt := h.lt
  refine hB.trans (hM.toBelow hB.size (fun k hk hS => ?_))
  rcases hS with rfl | rfl | hS
  · omega
  · omega
  · have := (h.own.lt k hS).1; omega
theorem new_ps (hB : Below w0.heap.size w0 w) (hm : 1 ≤ many ∧ many ≤ 8) : Calls Tryd.prog 8 #[.int .i64 many] w fun e w' => e = .returned (.tuple #[.pointer (some ⟨w.heap.size + 1, 0, none⟩), .nilIface]) ∧ PS w0 w' (w.heap.size + 1) w.heap.size many 0 0 [] [] :=
  (new_ok many w hm).mono fun e w' ⟨h1, h2, h3, _⟩ => ⟨h1, _, h2, hB.trans (h3.mono hB.size), hB.size⟩
theorem take_ps (h : PS w0 w b m many last now B L) (t : ByteArray) (ht : tokL t.data.toList = true) (hL : L.length < 1000000) (hBl : B.length < 1000000) (hmany : 1 ≤ many ∧ many ≤ 1000000) (hlast : 0 ≤ last ∧ last ≤ 1000000) (hids : ∀ x ∈ L, 0 ≤ x.id ∧ x.id ≤ 1000000) :
    Calls Tryd.prog 9 #[.pointer (some ⟨b, 0, none⟩), .string t] w fun e w' =>
      (∃ i, i < L.length ∧ (∀ j, i < j → j < L.length → isTo t (L.getD j default) = false) ∧ isTo t (L.getD i default) = true ∧ e = .returned (.tuple #[.int .i64 (L.getD i default).id, .bool false, .nilIface]) ∧ PS w0 w' b m many last now (putB B (L.getD i default).id t) (L.take i ++ L.drop (i + 1))) ∨
      ((∀ j, j < L.length → isTo t (L.getD j default) = false) ∧
        ((many ≤ B.length ∧ L = [] ∧ e = .returned (.tuple #[.int .i64 0, .bool false, .iface 72 (.int .i64 4)]) ∧ PS w0 w' b m many last now B L) ∨
        (e = .returned (.tuple #[.int .i64 (last + 1), .bool true, .nilIface]) ∧ ((many ≤ B.length + L.length ∧ 0 < L.length ∧ PS w0 w' b m many (last + 1) now (putB B (last + 1) t) (L.drop 1)) ∨ (B.length + L.length < many ∧ PS w0 w' b m many (last + 1) now (putB B (last + 1) t) L))))) := by
  obtain ⟨v, h1, h2, h3⟩ := h
  obtain ⟨a, c, rfl, _⟩ := h1.own.slice
  refine (take_any h1 t ht hL hBl hmany hlast hids).mono ?_
  rintro e w' ⟨hM, (⟨i, hi, hj, hx, he, hp⟩ | ⟨hno, (⟨hf, h0, he, hp⟩ | ⟨he, (⟨hf, h0, hp⟩ | ⟨hf, hp⟩)⟩)⟩)⟩
  · exact .inl ⟨i, hi, hj, hx, he, _, hp, ps_mod h1 h2 h3 hM, h3⟩
  · exact .inr ⟨hno, .inl ⟨by omega, List.eq_nil_of_length_eq_zero h0, he, _, hp, ps_mod h1 h2 h3 hM, h3⟩⟩
  · exact .inr ⟨hno, .inr ⟨he, .inl ⟨hf, h0, _, hp, ps_mod h1 h2 h3 hM, h3⟩⟩⟩
  · exact .inr ⟨hno, .inr ⟨he, .inr ⟨by omega, _, hp, ps_mod h1 h2 h3 hM, h3⟩⟩⟩
theorem take_bad_ps (h : PS w0 w b m many last now B L) (t : ByteArray) (ht : tokL t.data.toList = false) :
    Calls Tryd.prog 9 #[.pointer (some ⟨b, 0, none⟩), .string t] w fun e w' => e = .returned (.tuple #[.int .i64 0, .bool false, .iface 72 (.int .i64 2)]) ∧ PS w0 w' b m many last now B L := by
  obtain ⟨v, h1, h2, h3⟩ := h
  exact (take_bad h1 t ht).mono fun e w' ⟨he, hB⟩ => ⟨he, PS.below ⟨v, h1, h2, h3⟩ hB⟩
/-- A fresh one, where there is room. -/
theorem take_new_ps (h : PS w0 w b m many last now B L) (t : ByteArray) (ht : tokL t.data.toList = true) (hno : ∀ x ∈ L, isTo t x = false) (hroom : B.length + L.length < many) (hmany : 1 ≤ many ∧ many ≤ 1000000) (hlast : 0 ≤ last ∧ last ≤ 1000000) (hids : ∀ x ∈ L, 0 ≤ x.id ∧ x.id ≤ 1000000) :
    Calls Tryd.prog 9 #[.pointer (some ⟨b, 0, none⟩), .string t] w fun e w' => e = .returned (.tuple #[.int .i64 (last + 1), .bool true, .nilIface]) ∧ PS w0 w' b m many (last + 1) now (putB B (last + 1) t) L := by
  refine (take_ps h t ht (by omega) (by omega) hmany hlast hids).mono ?_
  rintro e w' (⟨i, hi, _, hx, _⟩ | ⟨_, (⟨hf, h0, he, hp⟩ | ⟨he, (⟨hf, h0, hp⟩ | ⟨hf, hp⟩)⟩)⟩)
  · rw [hno _ (getD_mem hi)] at hx; cases hx
  · omega
  · omega
  · exact ⟨he, hp⟩
theorem take_hit_ps (h : PS w0 w b m many last now B L) (t : ByteArray) (ht : tokL t.data.toList = true) (i : Nat) (hi : i < L.length) (hx : isTo t (L.getD i default) = true) (hj : ∀ j, i < j → j < L.length → isTo t (L.getD j default) = false)
    (hL : L.length < 1000000) (hBl : B.length < 1000000) (hmany : 1 ≤ many ∧ many ≤ 1000000) (hlast : 0 ≤ last ∧ last ≤ 1000000) (hids : ∀ x ∈ L, 0 ≤ x.id ∧ x.id ≤ 1000000) :
    Calls Tryd.prog 9 #[.pointer (some ⟨b, 0, none⟩), .string t] w fun e w' => e = .returned (.tuple #[.int .i64 (L.getD i default).id, .bool false, .nilIface]) ∧ PS w0 w' b m many last now (putB B (L.getD i default).id t) (L.take i ++ L.drop (i + 1)) := by
  refine (take_ps h t ht hL hBl hmany hlast hids).mono ?_
  rintro e w' (⟨k, hk, hkj, hkx, he, hp⟩ | ⟨hno, _⟩)
  · obtain rfl : k = i := by
      rcases Nat.lt_trichotomy k i with h | h | h
      · rw [hkj i h hi] at hx; cases hx
      · exact h
      · rw [hj k h hk] at hkx; cases hkx
    exact ⟨he, hp⟩
  · rw [hno i hi] at hx; cases hx
theorem back_ps (h : PS w0 w b m many last now B L) (id : Int) (hid : -9223372036854775808 ≤ id ∧ id ≤ 9223372036854775807) (t : ByteArray) (hx : findB B id = some t) (good : Bool) (hL : L.length < 1000000) :
    Calls Tryd.prog 11 #[.pointer (some ⟨b, 0, none⟩), .int .i64 id, .bool good] w fun e w' => e = .returned .nilIface ∧ PS w0 w' b m many last now (delB B id) (if good then L ++ [⟨id, now, t⟩] else L) := by
  obtain ⟨v, h1, h2, h3⟩ := h
  cases good with
  | true =>
    refine (back_good h1 hL id hid t hx).mono ?_
    rintro e w' ⟨v', he, hp, _, hM⟩
    exact ⟨he, v', hp, ps_mod h1 h2 h3 hM, h3⟩
  | false =>
    refine (back_bad h1 id hid t hx).mono ?_
    rintro e w' ⟨he, hp, hM⟩
    exact ⟨he, v, hp, ps_mod h1 h2 h3 hM, h3⟩
theorem back_none_ps (h : PS w0 w b m many last now B L) (id : Int) (hid : -9223372036854775808 ≤ id ∧ id ≤ 9223372036854775807) (good : Bool) (hx : findB B id = none) :
    Calls Tryd.prog 11 #[.pointer (some ⟨b, 0, none⟩), .int .i64 id, .bool good] w fun e w' => e = .returned (.iface 72 (.int .i64 5)) ∧ w = w' := by
  obtain ⟨v, h1, h2, h3⟩ := h
  exact back_none h1 id hid good hx
theorem busy_ps (h : PS w0 w b m many last now B L) : Calls Tryd.prog 12 #[.pointer (some ⟨b, 0, none⟩)] w fun e w' => e = .returned (.int .i64 B.length) ∧ w = w' := by
  obtain ⟨v, h1, h2, h3⟩ := h
  exact busy_any h1
theorem idle_ps (h : PS w0 w b m many last now B L) (t : ByteArray) (hL : L.length < 1000000) : Calls Tryd.prog 13 #[.pointer (some ⟨b, 0, none⟩), .string t] w fun e w' => e = .returned (.int .i64 (L.filter (isTo t)).length) ∧ PS w0 w' b m many last now B L := by
  obtain ⟨v, h1, h2, h3⟩ := h
  exact (idle_any h1 t hL).mono fun e w' ⟨he, hB⟩ => ⟨he, PS.below ⟨v, h1, h2, h3⟩ hB⟩
/-- Tick, where it is heard. -/
theorem tick_ps (h : PS w0 w b m many last now B L) (t old : Int) (hn : 0 ≤ t ∧ t ≤ 1000000) (ho : 0 ≤ old ∧ old ≤ 1000000) (hl : now ≤ t) (h0 : 0 ≤ now) (hL : L.length < 1000000) (hx : ∀ x ∈ L, 0 ≤ x.at_ ∧ x.at_ ≤ 1000000) :
    Calls Tryd.prog 14 #[.pointer (some ⟨b, 0, none⟩), .int .i64 t, .int .i64 old] w fun e w' => ∃ ga gn gc, e = .returned (.tuple #[.slice ga gn gc, .nilIface]) ∧ RowsL.Own w' w.heap.size 3 (.slice ga gn gc) ((goneL t old L).map (Value.int .i64)) ∧ PS w0 w' b m many last t B (L.filter fun x => !goneB t old x) := by
  obtain ⟨v, h1, h2, h3⟩ := h
  refine (tick_ok h1 t old hn ho hl h0 hL hx).mono ?_
  rintro e w' ⟨ga, gn, gc, v', he, hg, hp, _, hM⟩
  exact ⟨ga, gn, gc, he, hg, v', hp, ps_mod h1 h2 h3 hM, h3⟩
end
theorem goneL_len (t old : Int) (L : List Link) : (goneL t old L).length = (L.filter (goneB t old)).length := by simp [goneL]
theorem own_len {w : World} {base : Nat} {e : TypeId} {ga : Option Addr} {gn gc : Nat} {xs : List Value} (h : RowsL.Own w base e (.slice ga gn gc) xs) : gn = xs.length := by
  obtain ⟨a, c, e, _⟩ := h.slice
  simp only [Value.slice.injEq] at e
  exact e.2.1
end Go.Proofs.YtcdhjbeeehjpiaaDoor.PoolC
