/-
  What stays true of a pool: each number is there once, none is greater than the last, and no more than may be.
  Conditions: none.
-/
import Derived.Test.YtcdhjbeeehjpiaaDoorPoolSteps
namespace Go.Proofs.YtcdhjbeeehjpiaaDoor.PoolC
open Go.RowKit MapsL ModL RowsK RowsM Back LineC
set_option linter.unusedSimpArgs false
set_option linter.unusedVariables false

def bids (B : List (Int × ByteArray)) : List Int := B.map (·.1)
def lids (L : List Link) : List Int := L.map (·.id)
structure Inv (many last : Int) (B : List (Int × ByteArray)) (L : List Link) : Prop where
  nd : (bids B ++ lids L).Nodup
  bd : ∀ x ∈ bids B ++ lids L, 1 ≤ x ∧ x ≤ last
  cap : (B.length : Int) + L.length ≤ many
theorem putB_new : ∀ {B : List (Int × ByteArray)} {id : Int} {t : ByteArray}, id ∉ bids B → putB B id t = B ++ [(id, t)]
  | [], _, _, _ => rfl
  | p :: B, id, t, h => by
    simp only [bids, List.map_cons, List.mem_cons, not_or] at h
    rw [putB, if_neg (by simpa using fun e => h.1 e.symm), putB_new (B := B) h.2]; rfl
theorem bids_append (B : List (Int × ByteArray)) (id : Int) (t : ByteArray) : bids (B ++ [(id, t)]) = bids B ++ [id] := by simp [bids]
theorem inv_nil (many : Int) (h : 1 ≤ many) : Inv many 0 [] [] := ⟨by simp [bids, lids], fun x h => by simp [bids, lids] at h, by simp; omega⟩
theorem lids_split {L : List Link} {i : Nat} (hi : i < L.length) : (lids L).Perm ((L.getD i default).id :: lids (L.take i ++ L.drop (i + 1))) := by
  have e : L = L.take i ++ L.getD i default :: L.drop (i + 1) := by
    rw [List.getD_eq_getElem?_getD, List.getElem?_eq_getElem hi]
    show L = L.take i ++ L[i] :: L.drop (i + 1)
    rw [← List.drop_eq_getElem_cons hi, List.take_append_drop]
  have h2 : (lids (L.take i ++ L.getD i default :: L.drop (i + 1))).Perm ((L.getD i default).id :: lids (L.take i ++ L.drop (i + 1))) := by
    simp only [lids, List.map_append, List.map_cons]
    exact List.perm_middle
  rw [← e] at h2
  exact h2
theorem Inv.perm {many last : Int} {B B' : List (Int × ByteArray)} {L L' : List Link} (h : Inv many last B L) (hp : (bids B ++ lids L).Perm (bids B' ++ lids L')) : Inv many last B' L' := by
  refine ⟨hp.nodup_iff.1 h.nd, fun x hx => h.bd x (hp.mem_iff.2 hx), ?_⟩
  have := hp.length_eq
  simp only [List.length_append, bids, lids, List.length_map] at this
  have := h.cap
  omega
theorem Inv.ids {many last : Int} {B : List (Int × ByteArray)} {L : List Link} (h : Inv many last B L) (hl : last ≤ 1000000) : ∀ x ∈ L, 0 ≤ x.id ∧ x.id ≤ 1000000 := fun x hx => by
  have := h.bd x.id (List.mem_append_right _ (List.mem_map.2 ⟨x, hx, rfl⟩))
  omega
/-- One that was there is taken. -/
theorem Inv.old {many last : Int} {B : List (Int × ByteArray)} {L : List Link} (h : Inv many last B L) {i : Nat} (hi : i < L.length) (t : ByteArray) :
    (L.getD i default).id ∉ bids B ∧ (1 ≤ (L.getD i default).id ∧ (L.getD i default).id ≤ last) ∧ Inv many last (B ++ [((L.getD i default).id, t)]) (L.take i ++ L.drop (i + 1)) := by
  have hs := lids_split hi
  have hp : (bids B ++ lids L).Perm (bids (B ++ [((L.getD i default).id, t)]) ++ lids (L.take i ++ L.drop (i + 1))) := by
    rw [bids_append, List.append_assoc]
    exact List.Perm.append_left _ hs
  have h2 := h.perm hp
  have h3 := h2.nd
  rw [bids_append, List.append_assoc] at h3
  refine ⟨fun hm => ?_, h.bd _ (List.mem_append_right _ (hs.mem_iff.2 (List.mem_cons_self ..))), h2⟩
  exact (List.nodup_append.1 h3).2.2 _ hm _ (by simp) rfl
/-- A fresh one is taken; if there is no room, one that was there goes. -/
theorem Inv.fresh {many last : Int} {B : List (Int × ByteArray)} {L L' : List Link} (h : Inv many last B L) (t : ByteArray) (hl : 0 ≤ last) (hL : L' = L ∧ (B.length : Int) + L.length < many ∨ L' = L.drop 1 ∧ 0 < L.length) :
    last + 1 ∉ bids B ∧ Inv many (last + 1) (B ++ [(last + 1, t)]) L' := by
  have hsub : ∀ x ∈ lids L', x ∈ lids L := by
    rcases hL with ⟨rfl, _⟩ | ⟨rfl, _⟩
    · exact fun _ h => h
    · intro x hx
      obtain ⟨y, hy, rfl⟩ := List.mem_map.1 hx
      exact List.mem_map.2 ⟨y, List.mem_of_mem_drop hy, rfl⟩
  have hsl : (lids L').Sublist (lids L) := by
    rcases hL with ⟨rfl, _⟩ | ⟨rfl, _⟩
    · exact List.Sublist.refl _
    · exact (List.drop_sublist 1 L).map _
  have hnew : last + 1 ∉ bids B ++ lids L := fun hm => by have := (h.bd _ hm).2; omega
  refine ⟨fun hm => hnew (List.mem_append_left _ hm), ?_, fun x hx => ?_, ?_⟩
  · have hp : (List.cons (last + 1) (bids B ++ lids L')).Perm (bids (B ++ [(last + 1, t)]) ++ lids L') := by
      rw [bids_append, List.append_assoc]
      exact List.perm_middle.symm
    refine hp.nodup_iff.1 (List.nodup_cons.2 ⟨fun hm => ?_, h.nd.sublist ((List.Sublist.refl _).append hsl)⟩)
    rcases List.mem_append.1 hm with hm | hm
    · exact hnew (List.mem_append_left _ hm)
    · exact hnew (List.mem_append_right _ (hsub _ hm))
  · rw [bids_append] at hx
    simp only [List.mem_append, List.mem_singleton] at hx
    rcases hx with (hx | rfl) | hx
    · have := h.bd x (List.mem_append_left _ hx); omega
    · omega
    · have := h.bd x (List.mem_append_right _ (hsub _ hx)); omega
  · have hc := h.cap
    rcases hL with ⟨rfl, h1⟩ | ⟨rfl, h1⟩
    · simp; omega
    · simp; omega
theorem findB_head (id : Int) (t : ByteArray) (B : List (Int × ByteArray)) : findB ((id, t) :: B) id = some t := by simp [findB]
theorem findB_out {B : List (Int × ByteArray)} {id : Int} (h : id ∉ bids B) : findB B id = none := by
  unfold findB
  rw [List.find?_eq_none.2]
  · rfl
  · intro x hx
    simpa using fun e => h (List.mem_map.2 ⟨x, hx, e⟩)
theorem delB_head {id : Int} {t : ByteArray} {B : List (Int × ByteArray)} (h : id ∉ bids B) : delB ((id, t) :: B) id = B := by
  unfold delB
  rw [List.filter_cons, if_neg (by simp)]
  exact List.filter_eq_self.2 fun x hx => by simpa using fun e => h (List.mem_map.2 ⟨x, hx, e⟩)
/-- The first comes back. -/
theorem Inv.back {many last now id : Int} {t : ByteArray} {B : List (Int × ByteArray)} {L : List Link} (h : Inv many last ((id, t) :: B) L) (good : Bool) : id ∉ bids B ∧ (1 ≤ id ∧ id ≤ last) ∧ Inv many last B (if good then L ++ [⟨id, now, t⟩] else L) := by
  have hnd := h.nd
  simp only [bids, List.map_cons, List.cons_append] at hnd
  have hnd' := List.nodup_cons.1 hnd
  have hin : id ∉ bids B := fun hm => hnd'.1 (List.mem_append_left _ hm)
  refine ⟨hin, h.bd id (by simp [bids]), ?_⟩
  cases good with
  | true =>
    refine h.perm ?_
    simp only [bids, lids, List.map_cons, List.cons_append, if_true, List.map_append, List.map_nil]
    refine List.Perm.trans ?_ (List.perm_append_comm_assoc ..).symm
    have := (List.perm_append_singleton id (B.map (·.1) ++ L.map (·.id))).symm
    refine this.trans ?_
    rw [List.append_assoc]
    exact List.perm_append_comm_assoc ..
  | false =>
    refine ⟨hnd'.2, fun x hx => h.bd x (by simp only [bids, List.map_cons, List.cons_append]; exact List.mem_cons_of_mem _ hx), ?_⟩
    have := h.cap
    simp at this ⊢; omega
theorem two_counts (t u : ByteArray) (h : (t.toList == u.toList) = false) : ∀ L : List Link, (L.filter (isTo t)).length + (L.filter (isTo u)).length ≤ L.length
  | [] => by simp
  | x :: L => by
    have ih := two_counts t u h L
    rw [List.filter_cons, List.filter_cons]
    cases h1 : isTo t x <;> cases h2 : isTo u x <;> simp <;> try omega
    simp only [isTo, beq_iff_eq] at h1 h2
    rw [← h1, h2] at h
    simp at h
/-- Take, of a pool that is right. -/
theorem take_inv {w0 w : World} {F : (Nat → Prop) × World} {b m : Nat} {many last : Int} {now : Int} {B : List (Int × ByteArray)} {L : List Link} (h : PS w0 w F b m many last now B L) (hI : Inv many last B L) (t : ByteArray) (ht : tokL t.data.toList = true) (hmany : 1 ≤ many ∧ many ≤ 8) (hlast : 0 ≤ last ∧ last ≤ 1000) :
    Calls Tryd.prog 9 #[.pointer (some ⟨b, 0, none⟩), .string t] w fun e w' =>
      ((B.length : Int) = many ∧ e = .returned (.tuple #[.int .i64 0, .bool false, .iface 72 (.int .i64 4)]) ∧ PS w0 w' F b m many last now B L) ∨
      (∃ L', e = .returned (.tuple #[.int .i64 (last + 1), .bool true, .nilIface]) ∧ last + 1 ∉ bids B ∧ Inv many (last + 1) (B ++ [(last + 1, t)]) L' ∧ PS w0 w' F b m many (last + 1) now (B ++ [(last + 1, t)]) L') ∨
      (∃ id L', e = .returned (.tuple #[.int .i64 id, .bool false, .nilIface]) ∧ (1 ≤ id ∧ id ≤ last) ∧ id ∉ bids B ∧ Inv many last (B ++ [(id, t)]) L' ∧ PS w0 w' F b m many last now (B ++ [(id, t)]) L') := by
  have hc := hI.cap
  refine (take_ps h t ht (by omega) (by omega) (by omega) (by omega) (hI.ids (by omega))).mono ?_
  rintro e w' (⟨i, hi, _, hx, he, hp⟩ | ⟨_, (⟨hf, h0, he, hp⟩ | ⟨he, hp⟩)⟩)
  · obtain ⟨h1, h2, h3⟩ := hI.old hi t
    rw [putB_new h1] at hp
    exact .inr (.inr ⟨_, _, he, h2, h1, h3, hp⟩)
  · subst h0
    simp at hc
    exact .inl ⟨by omega, he, hp⟩
  · rcases hp with ⟨hf, h0, hp⟩ | ⟨hf, hp⟩
    · obtain ⟨h1, h3⟩ := hI.fresh (L' := L.drop 1) t hlast.1 (.inr ⟨rfl, h0⟩)
      rw [putB_new h1] at hp
      exact .inr (.inl ⟨_, he, h1, h3, hp⟩)
    · obtain ⟨h1, h3⟩ := hI.fresh (L' := L) t hlast.1 (.inl ⟨rfl, hf⟩)
      rw [putB_new h1] at hp
      exact .inr (.inl ⟨_, he, h1, h3, hp⟩)
end Go.Proofs.YtcdhjbeeehjpiaaDoor.PoolC
