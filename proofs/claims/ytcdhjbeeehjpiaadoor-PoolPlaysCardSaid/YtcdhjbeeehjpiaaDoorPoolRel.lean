/-
  The pool and the reference's go along: the plain law.
  Conditions: none.
-/
import Derived.Test.YtcdhjbeeehjpiaaDoorPoolInv
import Derived.Test.YtcdhjbeeehjpiaaDoorPoolRefC
import Derived.Test.YtcdhjbeeehjpiaaDoorPoolRefD
namespace Go.Proofs.YtcdhjbeeehjpiaaDoor.PoolX
open Go.RowKit RowsK Back PoolC PoolR
set_option linter.unusedSimpArgs false
set_option linter.unusedVariables false

/-- An idle link as the reference has it. -/
def mkR (p : Link × Int) : RL := ⟨p.1.id, p.1.to, false, p.1.at_, p.2⟩
def isB (x : RL) : Bool := x.busy
def isI (x : RL) : Bool := !x.busy
def bp (x : RL) : Int × ByteArray := (x.id, x.to)
/-- Busy ones B, idle ones P (each with its turn, the first that came back first), the reference's l. -/
structure Rel (last turn : Int) (B : List (Int × ByteArray)) (P : List (Link × Int)) (l : List RL) : Prop where
  nd : (l.map (·.id)).Nodup
  bd : ∀ x ∈ l, (1 ≤ x.id ∧ x.id ≤ last) ∧ 0 ≤ x.at_ ∧ x.at_ ≤ 1000000
  busy : B.Perm ((l.filter isB).map bp)
  idle : (P.map mkR).Perm (l.filter isI)
  srt : (P.map (·.2)).Pairwise (· < ·)
  top : ∀ p ∈ P, p.2 ≤ turn
section
variable {last turn : Int} {B : List (Int × ByteArray)} {P : List (Link × Int)} {l l' : List RL}
theorem Rel.perm (h : Rel last turn B P l) (hp : l.Perm l') : Rel last turn B P l' :=
  ⟨(hp.map _).nodup_iff.1 h.nd, fun x hx => h.bd x (hp.mem_iff.2 hx), h.busy.trans ((hp.filter _).map _), h.idle.trans (hp.filter _), h.srt, h.top⟩
theorem set_perm (l : List RL) (n : Nat) (hn : n < l.length) (y : RL) : (l.set n y).Perm (y :: (l.take n ++ l.drop (n + 1))) := by
  rw [List.set_eq_take_append_cons_drop, if_pos hn]
  exact List.perm_middle
theorem at_perm (l : List RL) (n : Nat) (x : RL) (hx : l[n]? = some x) : l.Perm (x :: (l.take n ++ l.drop (n + 1))) := by
  have hn := (List.getElem?_eq_some_iff.1 hx).1
  have e : l[n] = x := (List.getElem?_eq_some_iff.1 hx).2
  have h := set_perm l n hn x
  rw [← e, List.set_getElem_self] at h
  rw [← e]; exact h
theorem len_split (l : List RL) : (l.filter isB).length + (l.filter isI).length = l.length := by
  induction l with
  | nil => rfl
  | cons x l ih =>
    rw [List.filter_cons, List.filter_cons]
    cases h : x.busy with
    | true => rw [if_pos (show isB x = true from h), if_neg (by simp [isI, h])]; simp only [List.length_cons]; omega
    | false => rw [if_neg (by simp [isB, h]), if_pos (by simp [isI, h])]; simp only [List.length_cons]; omega
theorem Rel.len (h : Rel last turn B P l) : B.length + P.length = l.length := by
  have h1 := h.busy.length_eq
  have h2 := h.idle.length_eq
  rw [List.length_map] at h1 h2
  have := len_split l
  omega
/-- An idle one of the reference's is one of the pool's. -/
theorem Rel.find (h : Rel last turn B P l) {x : RL} (hx : x ∈ l) (hi : x.busy = false) : ∃ i, ∃ hi : i < P.length, mkR P[i] = x := by
  have : x ∈ l.filter isI := List.mem_filter.2 ⟨hx, by simp [isI, hi]⟩
  obtain ⟨p, hp, e⟩ := List.mem_map.1 (h.idle.mem_iff.2 this)
  obtain ⟨i, hi, rfl⟩ := List.getElem_of_mem hp
  exact ⟨i, hi, e⟩
theorem Rel.mem (h : Rel last turn B P l) {i : Nat} (hi : i < P.length) : mkR P[i] ∈ l ∧ (mkR P[i]).busy = false := by
  have : mkR P[i] ∈ P.map mkR := List.mem_map.2 ⟨_, List.getElem_mem hi, rfl⟩
  have := List.mem_filter.1 (h.idle.mem_iff.1 this)
  exact ⟨this.1, rfl⟩
theorem Rel.lt (h : Rel last turn B P l) {i j : Nat} (hij : i < j) (hj : j < P.length) : (P[i]'(by omega)).2 < P[j].2 := by
  have := List.pairwise_iff_getElem.1 h.srt i j (by rw [List.length_map]; omega) (by rw [List.length_map]; exact hj) hij
  simpa using this
/-- The last that goes to t is the one that the reference takes. -/
theorem Rel.best (h : Rel last turn B P l) {t : ByteArray} {i : Nat} (hi : i < P.length) (ht : isTo t P[i].1 = true) (hl : ∀ j, i < j → ∀ hj : j < P.length, isTo t P[j].1 = false) {k : Int} (hL : LeadG (bestP t) ahB l k) : ∃ n : Nat, k = n ∧ l[n]? = some (mkR P[i]) := by
  have hm := h.mem hi
  have hb : bestP t (mkR P[i]) = true := by simp only [bestP, mkR, isTo] at *; simp [ht]
  rcases hL with ⟨_, hno⟩ | ⟨n, x, hk, hx, hp, hmax⟩
  · rw [hno _ hm.1] at hb; cases hb
  · refine ⟨n, hk, ?_⟩
    rw [hx]
    have hxm : x ∈ l := List.mem_of_getElem? hx
    simp only [bestP, Bool.and_eq_true, Bool.not_eq_true'] at hp
    obtain ⟨j, hj, e⟩ := h.find hxm hp.1
    subst e
    have htj : isTo t P[j].1 = true := hp.2
    have hjle : ¬ i < j := fun hlt => by rw [hl j hlt hj] at htj; cases htj
    have hmx := hmax _ hm.1 hb
    unfold ahB at hmx
    simp only [mkR] at hmx
    rcases Nat.lt_or_ge j i with hlt | hge
    · have := h.lt hlt hi; omega
    · obtain rfl : i = j := by omega
      rfl
theorem Rel.noBest (h : Rel last turn B P l) {t : ByteArray} (hno : ∀ i (hi : i < P.length), isTo t P[i].1 = false) {k : Int} (hL : LeadG (bestP t) ahB l k) : k = -1 := by
  rcases hL with ⟨e, _⟩ | ⟨n, x, _, hx, hp, _⟩
  · exact e
  · simp only [bestP, Bool.and_eq_true, Bool.not_eq_true'] at hp
    obtain ⟨j, hj, e⟩ := h.find (List.mem_of_getElem? hx) hp.1
    subst e
    have h1 : isTo t P[j].1 = true := hp.2
    rw [hno j hj] at h1; cases h1
/-- The first of the idle ones is the oldest. -/
theorem Rel.oldest (h : Rel last turn B P l) (h0 : 0 < P.length) {k : Int} (hL : LeadG oldP ahO l k) : ∃ n : Nat, k = n ∧ l[n]? = some (mkR P[0]) := by
  have hm := h.mem h0
  rcases hL with ⟨_, hno⟩ | ⟨n, x, hk, hx, hp, hmax⟩
  · have := hno _ hm.1
    simp [oldP, mkR] at this
  · refine ⟨n, hk, ?_⟩
    rw [hx]
    have hpb : x.busy = false := by simpa [oldP] using hp
    obtain ⟨j, hj, e⟩ := h.find (List.mem_of_getElem? hx) hpb
    subst e
    have hmx := hmax _ hm.1 (by simp [oldP, mkR])
    unfold ahO at hmx
    simp only [mkR] at hmx
    rcases Nat.eq_zero_or_pos j with rfl | hpos
    · rfl
    · have := h.lt hpos hj; omega
theorem Rel.noOld (h : Rel last turn B P l) (h0 : P.length = 0) {k : Int} (hL : LeadG oldP ahO l k) : k = -1 := by
  rcases hL with ⟨e, _⟩ | ⟨n, x, _, hx, hp, _⟩
  · exact e
  · obtain ⟨j, hj, _⟩ := h.find (List.mem_of_getElem? hx) (by simpa [oldP] using hp)
    omega
theorem split_at {i : Nat} (hi : i < P.length) : P = P.take i ++ P[i] :: P.drop (i + 1) := by
  rw [← List.drop_eq_getElem_cons hi, List.take_append_drop]
theorem sub_srt (h : (P.map (·.2)).Pairwise (· < ·)) {P' : List (Link × Int)} (hs : P'.Sublist P) : (P'.map (·.2)).Pairwise (· < ·) := h.sublist (hs.map _)
theorem cut_sub (P : List (Link × Int)) (i : Nat) : (P.take i ++ P.drop (i + 1)).Sublist P := by
  have h1 : (P.take i ++ P.drop (i + 1)).Sublist (P.take i ++ P.drop i) := (List.Sublist.refl _).append (by rw [← List.drop_drop]; exact List.drop_sublist ..)
  rwa [List.take_append_drop] at h1
/-- An idle one leaves the idle ones. -/
theorem Rel.leave (h : Rel last turn B P l) {i : Nat} (hi : i < P.length) {R : List RL} (hR : l.Perm (mkR P[i] :: R)) : ((P.take i ++ P.drop (i + 1)).map mkR).Perm (R.filter isI) := by
  have h1 := h.idle.trans (hR.filter _)
  rw [List.filter_cons, if_pos (show isI (mkR P[i]) = true from rfl)] at h1
  have h2 : (P.map mkR).Perm (mkR P[i] :: (P.take i ++ P.drop (i + 1)).map mkR) := by
    have := congrArg (List.map mkR) (split_at hi)
    rw [this, List.map_append, List.map_cons, List.map_append]
    exact List.perm_middle
  exact List.Perm.cons_inv (h2.symm.trans h1)
/-- One that was there is taken. -/
theorem Rel.takeOld (h : Rel last turn B P l) {i n : Nat} (hi : i < P.length) (hx : l[n]? = some (mkR P[i])) : Rel last turn (B ++ [(P[i].1.id, P[i].1.to)]) (P.take i ++ P.drop (i + 1)) (l.set n ⟨P[i].1.id, P[i].1.to, true, P[i].1.at_, P[i].2⟩) := by
  have hp := at_perm l n _ hx
  have h0 := h.perm hp
  have hs := set_perm l n (List.getElem?_eq_some_iff.1 hx).1 ⟨P[i].1.id, P[i].1.to, true, P[i].1.at_, P[i].2⟩
  refine Rel.perm ⟨?_, fun x hxm => ?_, ?_, ?_, sub_srt h.srt (cut_sub P i), fun p hpm => h.top p ((cut_sub P i).mem hpm)⟩ hs.symm
  · have := h0.nd
    simpa [mkR] using this
  · rcases List.mem_cons.1 hxm with rfl | hxm
    · exact h.bd (mkR P[i]) (h.mem hi).1
    · exact h0.bd x (List.mem_cons_of_mem _ hxm)
  · have h1 := h0.busy
    rw [List.filter_cons, if_neg (by simp [isB, mkR])] at h1
    rw [List.filter_cons, if_pos (by simp [isB]), List.map_cons]
    exact (List.perm_append_singleton _ _).trans (h1.cons _)
  · rw [List.filter_cons, if_neg (by simp [isI])]
    exact h.leave hi hp
/-- A fresh one. -/
theorem Rel.takeNew (h : Rel last turn B P l) (hl : 0 ≤ last) (t : ByteArray) : Rel (last + 1) turn (B ++ [(last + 1, t)]) P (l ++ [⟨last + 1, t, true, 0, 0⟩]) := by
  refine Rel.perm (l := ⟨last + 1, t, true, 0, 0⟩ :: l) ⟨?_, fun x hxm => ?_, ?_, ?_, h.srt, h.top⟩ (List.perm_append_singleton _ _).symm
  · rw [List.map_cons]
    refine List.nodup_cons.2 ⟨fun hm => ?_, h.nd⟩
    obtain ⟨x, hx, e⟩ := List.mem_map.1 hm
    have := (h.bd x hx).1
    simp only at e
    omega
  · rcases List.mem_cons.1 hxm with rfl | hxm
    · exact ⟨⟨by show 1 ≤ last + 1; omega, Int.le_refl _⟩, by show (0 : Int) ≤ 0; omega, by show (0 : Int) ≤ 1000000; omega⟩
    · obtain ⟨h1, h2⟩ := h.bd x hxm
      exact ⟨⟨h1.1, by omega⟩, h2⟩
  · rw [List.filter_cons, if_pos (by simp [isB]), List.map_cons]
    exact (List.perm_append_singleton _ _).trans (h.busy.cons _)
  · rw [List.filter_cons, if_neg (by simp [isI])]
    exact h.idle
/-- The oldest goes. -/
theorem Rel.dropOld (h : Rel last turn B P l) (h0 : 0 < P.length) {n : Nat} (hx : l[n]? = some (mkR P[0])) : Rel last turn B (P.drop 1) (l.take n ++ l.drop (n + 1)) := by
  have hp := at_perm l n _ hx
  have h1 := h.perm hp
  have hlv := h.leave h0 hp
  rw [List.take_zero, List.nil_append] at hlv
  refine ⟨?_, fun x hxm => h1.bd x (List.mem_cons_of_mem _ hxm), ?_, hlv, sub_srt h.srt (List.drop_sublist ..), fun p hpm => h.top p (List.mem_of_mem_drop hpm)⟩
  · have := h1.nd
    rw [List.map_cons] at this
    exact (List.nodup_cons.1 this).2
  · have h2 := h1.busy
    rw [List.filter_cons, if_neg (by simp [isB, mkR])] at h2
    exact h2
/-- The busy one of a number. -/
theorem findB_iff (B : List (Int × ByteArray)) (hn : (bids B).Nodup) (id : Int) (t : ByteArray) : findB B id = some t ↔ (id, t) ∈ B := by
  induction B with
  | nil => simp [findB]
  | cons p B ih =>
    simp only [bids, List.map_cons] at hn
    obtain ⟨h1, h2⟩ := List.nodup_cons.1 hn
    have ih := ih h2
    unfold findB at *
    rw [List.find?_cons]
    cases hp : (p.1 == id) with
    | true =>
      have e : p.1 = id := by simpa using hp
      simp only [Option.map_some, Option.some.injEq, List.mem_cons]
      constructor
      · rintro rfl; exact .inl (by rw [← e])
      · rintro (h | h)
        · rw [← h]
        · exact absurd (List.mem_map.2 ⟨(id, t), h, e.symm⟩) h1
    | false =>
      have e : p.1 ≠ id := by simpa using hp
      rw [ih, List.mem_cons]
      constructor
      · exact .inr
      · rintro (h | h)
        · rw [← h] at e; exact absurd rfl e
        · exact h
theorem Rel.bnd (h : Rel last turn B P l) : (bids B).Nodup := by
  have h1 : (bids B).Perm ((l.filter isB).map (·.id)) := by
    have := h.busy.map (·.1)
    rw [List.map_map] at this
    exact this
  exact h1.nodup_iff.2 (h.nd.sublist ((List.filter_sublist).map _))
/-- A busy one: its place in the reference's row. -/
theorem Rel.place (h : Rel last turn B P l) {id : Int} {t : ByteArray} (hf : findB B id = some t) : ∃ n, ∃ hn : n < l.length, l[n].busy = true ∧ l[n].id = id ∧ l[n].to = t ∧ hitB id (l.getD n default) = true ∧ ∀ j, j < n → hitB id (l.getD j default) = false := by
  have hm := (findB_iff B h.bnd id t).1 hf
  obtain ⟨x, hx, e⟩ := List.mem_map.1 (h.busy.mem_iff.1 hm)
  obtain ⟨hxl, hxb⟩ := List.mem_filter.1 hx
  obtain ⟨n, hn, rfl⟩ := List.getElem_of_mem hxl
  simp only [bp, Prod.mk.injEq] at e
  have hgd : ∀ j (hj : j < l.length), l.getD j default = l[j] := fun j hj => by rw [List.getD_eq_getElem?_getD, List.getElem?_eq_getElem hj]; rfl
  refine ⟨n, hn, hxb, e.1, e.2, ?_, fun j hj => ?_⟩
  · rw [hgd n hn, hitB, show l[n].busy = true from hxb, e.1]; simp
  · rw [hgd j (by omega), hitB]
    have hne : l[j].id ≠ l[n].id := by
      have := List.pairwise_iff_getElem.1 h.nd j n (by rw [List.length_map]; omega) (by rw [List.length_map]; exact hn) hj
      simpa using this
    rw [e.1] at hne
    simp [hne]
theorem Rel.noPlace (h : Rel last turn B P l) {id : Int} (hf : findB B id = none) : ∀ x ∈ l, hitB id x = false := fun x hx => by
  cases hb : hitB id x with
  | false => rfl
  | true =>
    simp only [hitB, Bool.and_eq_true, beq_iff_eq] at hb
    have : (id, x.to) ∈ B := h.busy.mem_iff.2 (List.mem_map.2 ⟨x, List.mem_filter.2 ⟨hx, hb.2⟩, by simp [bp, hb.1]⟩)
    rw [(findB_iff B h.bnd id x.to).2 this] at hf
    cases hf
theorem delB_perm {B C : List (Int × ByteArray)} {id : Int} {t : ByteArray} (hn : (bids B).Nodup) (hp : B.Perm ((id, t) :: C)) : (delB B id).Perm C := by
  unfold delB
  refine (hp.filter _).trans ?_
  rw [List.filter_cons, if_neg (by simp)]
  rw [List.filter_eq_self.2]
  intro x hx
  have hn2 : (bids ((id, t) :: C)).Nodup := (hp.map _).nodup_iff.1 hn
  simp only [bids, List.map_cons] at hn2
  have := (List.nodup_cons.1 hn2).1
  simpa using fun e => this (List.mem_map.2 ⟨x, hx, e⟩)
/-- One comes back, and is good. -/
theorem Rel.backGood (h : Rel last turn B P l) (now : Int) (hnow : 0 ≤ now ∧ now ≤ 1000000) {id : Int} {t : ByteArray} {n : Nat} (hn : n < l.length) (h1 : l[n].busy = true) (h2 : l[n].id = id) (h3 : l[n].to = t) : Rel last (turn + 1) (delB B id) (P ++ [(⟨id, now, t⟩, turn + 1)]) (l.set n ⟨id, t, false, now, turn + 1⟩) := by
  have hp := at_perm l n l[n] (List.getElem?_eq_getElem hn)
  have h0 := h.perm hp
  have hs := set_perm l n hn ⟨id, t, false, now, turn + 1⟩
  have hb := h0.busy
  rw [List.filter_cons, if_pos (show isB l[n] = true from h1), List.map_cons, show bp l[n] = (id, t) by simp [bp, h2, h3]] at hb
  have hi := h0.idle
  rw [List.filter_cons, if_neg (by simp [isI, h1])] at hi
  refine Rel.perm ⟨?_, fun x hxm => ?_, ?_, ?_, ?_, fun p hpm => ?_⟩ hs.symm
  · have := h0.nd
    rw [List.map_cons, h2] at this
    exact this
  · rcases List.mem_cons.1 hxm with rfl | hxm
    · have := (h.bd l[n] (List.getElem_mem hn)).1
      rw [h2] at this
      exact ⟨this, hnow⟩
    · exact h0.bd x (List.mem_cons_of_mem _ hxm)
  · rw [List.filter_cons, if_neg (by simp [isB])]
    exact delB_perm h.bnd hb
  · rw [List.filter_cons, if_pos (by simp [isI]), List.map_append]
    exact (List.perm_append_singleton _ _).trans (hi.cons _)
  · rw [List.map_append]
    refine List.pairwise_append.2 ⟨h.srt, by simp, fun a ha b hb => ?_⟩
    obtain ⟨p, hpm, rfl⟩ := List.mem_map.1 ha
    simp only [List.map_cons, List.map_nil, List.mem_singleton] at hb
    have := h.top p hpm
    omega
  · rcases List.mem_append.1 hpm with hpm | hpm
    · have := h.top p hpm; omega
    · obtain rfl := List.mem_singleton.1 hpm; exact Int.le_refl _
/-- One comes back, and is no good. -/
theorem Rel.backBad (h : Rel last turn B P l) {id : Int} {t : ByteArray} {n : Nat} (hn : n < l.length) (h1 : l[n].busy = true) (h2 : l[n].id = id) (h3 : l[n].to = t) : Rel last turn (delB B id) P (l.take n ++ l.drop (n + 1)) := by
  have hp := at_perm l n l[n] (List.getElem?_eq_getElem hn)
  have h0 := h.perm hp
  have hb := h0.busy
  rw [List.filter_cons, if_pos (show isB l[n] = true from h1), List.map_cons, show bp l[n] = (id, t) by simp [bp, h2, h3]] at hb
  have hi := h0.idle
  rw [List.filter_cons, if_neg (by simp [isI, h1])] at hi
  refine ⟨?_, fun x hxm => h0.bd x (List.mem_cons_of_mem _ hxm), delB_perm h.bnd hb, hi, h.srt, h.top⟩
  have := h0.nd
  rw [List.map_cons] at this
  exact (List.nodup_cons.1 this).2
theorem goes_mk (now old : Int) (p : Link × Int) : goesB now old (mkR p) = goneB now old p.1 := rfl
/-- Time goes on. -/
theorem Rel.tick (h : Rel last turn B P l) (now old : Int) : Rel last turn B (P.filter fun p => !goneB now old p.1) (l.filter fun x => !goesB now old x) := by
  have hsub : (l.filter fun x => !goesB now old x).Sublist l := List.filter_sublist
  refine ⟨h.nd.sublist (hsub.map _), fun x hx => h.bd x (hsub.mem hx), ?_, ?_, sub_srt h.srt List.filter_sublist, fun p hp => h.top p (List.mem_filter.1 hp).1⟩
  · refine h.busy.trans ?_
    rw [List.filter_filter]
    refine List.Perm.of_eq (congrArg (List.map bp) (List.filter_congr fun x hx => ?_))
    cases hb : x.busy <;> simp [isB, goesB, hb]
  · have h1 := h.idle.filter (fun x => !goesB now old x)
    rw [List.filter_map] at h1
    rw [List.filter_filter] at h1 ⊢
    have e1 : (P.filter ((fun x => !goesB now old x) ∘ mkR)) = P.filter fun p => !goneB now old p.1 := List.filter_congr fun p _ => by simp [goes_mk]
    rw [e1] at h1
    refine h1.trans (List.Perm.of_eq (List.filter_congr fun x _ => ?_))
    exact Bool.and_comm _ _
/-- Who goes. -/
theorem Rel.gone (h : Rel last turn B P l) (now old : Int) {G : List Int} (hs : G.Pairwise (· ≤ ·)) (hp : G.Perm ((l.filter (goesB now old)).map (·.id))) : G = goneL now old (P.map (·.1)) := by
  have h1 : ((P.map mkR).filter (goesB now old)).Perm (l.filter (goesB now old)) := by
    refine (h.idle.filter _).trans (List.Perm.of_eq ?_)
    rw [List.filter_filter]
    refine List.filter_congr fun x _ => ?_
    cases hb : x.busy <;> simp [isI, goesB, hb]
  rw [List.filter_map] at h1
  have h2 := (h1.map (·.id)).symm
  rw [List.map_map] at h2
  have h3 : ((P.filter (goesB now old ∘ mkR)).map ((·.id) ∘ mkR)) = ((P.map (·.1)).filter (goneB now old)).map (·.id) := by
    rw [List.filter_map, List.map_map]
    rw [show (goesB now old ∘ mkR) = (goneB now old ∘ fun x : Link × Int => x.1) from funext fun p => goes_mk now old p]
    rfl
  rw [h3] at h2
  have h4 : (goneL now old (P.map (·.1))).Perm (((P.map (·.1)).filter (goneB now old)).map (·.id)) := List.mergeSort_perm _ _
  have h5 : (goneL now old (P.map (·.1))).Pairwise (· ≤ ·) := by
    have := List.pairwise_mergeSort (le := fun x y : Int => decide (x ≤ y)) (fun a b c h1 h2 => by simp only [decide_eq_true_eq] at *; omega) (fun a b => by simp only [Bool.or_eq_true, decide_eq_true_eq]; omega) (((P.map (·.1)).filter (goneB now old)).map (·.id))
    exact this.imp (fun h => by simpa using h)
  exact List.Perm.eq_of_pairwise (fun a b _ _ h1 h2 => by omega) hs h5 ((hp.trans h2).trans h4.symm)
/-- How many are busy, and idle to t. -/
theorem Rel.counts (h : Rel last turn B P l) (t : ByteArray) : B.length = (l.filter isB).length ∧ ((P.map (·.1)).filter (isTo t)).length = (l.filter (fun x => isI x && (x.to.toList == t.toList))).length := by
  refine ⟨by have := h.busy.length_eq; rwa [List.length_map] at this, ?_⟩
  have h1 := (h.idle.filter (fun x => x.to.toList == t.toList)).length_eq
  rw [List.filter_map, List.length_map, List.filter_filter] at h1
  rw [List.filter_map, List.length_map]
  refine Eq.trans ?_ (h1.trans ?_)
  · rfl
  · exact congrArg List.length (List.filter_congr fun x _ => Bool.and_comm _ _)
end
end Go.Proofs.YtcdhjbeeehjpiaaDoor.PoolX
