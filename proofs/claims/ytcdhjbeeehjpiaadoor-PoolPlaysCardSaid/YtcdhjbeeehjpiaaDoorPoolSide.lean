/-
  The pool and the reference's side by side: what each step does to both.
  Conditions: where both lie.
-/
import Derived.Test.YtcdhjbeeehjpiaaDoorPoolRel
import Derived.Test.YtcdhjbeeehjpiaaDoorTold
namespace Go.Proofs.YtcdhjbeeehjpiaaDoor.PoolX
open Go.RowKit MapsL ModL RowsK RowsM Back LineC PoolC PoolR
set_option linter.unusedSimpArgs false
set_option linter.unusedVariables false

/-- Both lie apart; the blocks E are as they were in E's world. -/
def JJ (w W : World) (E : (Nat → Prop) × World) (pb pm q : Nat) (many last now : Int) (B : List (Int × ByteArray)) (L : List Link) (last2 now2 turn2 : Int) (l2 : List RL) : Prop :=
  ∃ rv, PS w W (fun k => k = q ∨ rv.ownBlock = some k ∨ E.1 k, W) pb pm many last now B L ∧ RefO W q many last2 now2 turn2 rv l2 ∧ (∀ k, rv.ownBlock = some k → ¬ E.1 k) ∧ ¬ E.1 q ∧ ∀ k, E.1 k → W.heap[k]? = E.2.heap[k]?
section
variable {w W W' : World} {E : (Nat → Prop) × World} {pb pm q : Nat} {many last now last' now' : Int} {B B' : List (Int × ByteArray)} {L L' : List Link} {last2 now2 turn2 : Int} {l2 : List RL}
theorem JJ.base (h : JJ w W E pb pm q many last now B L last2 now2 turn2 l2) : Below w.heap.size w W := by obtain ⟨rv, h1, _⟩ := h; exact h1.base
theorem JJ.below (h : JJ w W E pb pm q many last now B L last2 now2 turn2 l2) (hB : Below W.heap.size W W') : JJ w W' E pb pm q many last now B L last2 now2 turn2 l2 := by
  obtain ⟨rv, h1, h2, h3, h4, h5⟩ := h
  obtain ⟨v, g1, g2, g3, g4⟩ := id h1
  exact ⟨rv, (h1.below hB).rebase, h2.below hB, h3, h4, fun k hk => (hB.block k (g4 k (.inr (.inr hk))).2.1).trans (h5 k hk)⟩
theorem JJ.same (h : JJ w W E pb pm q many last now B L last2 now2 turn2 l2) : ∀ k, E.1 k → W.heap[k]? = E.2.heap[k]? := by obtain ⟨rv, h1, h2, h3, h4, h5⟩ := h; exact h5
/-- The pool's step leaves the reference's as it was. -/
theorem pool_side {f : FuncId} {args : Array Value} {R : Ending → Prop} (h : JJ w W E pb pm q many last now B L last2 now2 turn2 l2)
    (hc : ∀ F, PS w W F pb pm many last now B L → Calls Tryd.prog f args W fun e w' => R e ∧ PS w w' F pb pm many last' now' B' L') :
    Calls Tryd.prog f args W fun e w' => R e ∧ JJ w w' E pb pm q many last' now' B' L' last2 now2 turn2 l2 := by
  obtain ⟨rv, h1, h2, h3, h4, h5⟩ := h
  refine (hc _ h1).mono ?_
  rintro e w' ⟨he, hp⟩
  have hs := hp.same
  exact ⟨he, rv, hp.rebase, h2.of_blocks (hs q (.inl rfl)) (fun k hk => hs k (.inr (.inl hk))), h3, h4, fun k hk => (hs k (.inr (.inr hk))).trans (h5 k hk)⟩
/-- The reference's step leaves the pool as it was. -/
theorem JJ.ref (h : JJ w W E pb pm q many last now B L last2 now2 turn2 l2) {last3 now3 turn3 : Int} {l3 : List RL} {rv rv' : Value} (hrv : ∀ rv0, RefO W q many last2 now2 turn2 rv0 l2 → rv0 = rv) (hM : Mod (RefS q rv) W W') (hN : NearR W rv rv') (hO : RefO W' q many last3 now3 turn3 rv' l3) : JJ w W' E pb pm q many last now B L last3 now3 turn3 l3 := by
  obtain ⟨rv0, h1, h2, h3, h4, h5⟩ := h
  obtain rfl := hrv rv0 h2
  obtain ⟨v, g1, g2, g3, g4⟩ := id h1
  have hE : ∀ k, E.1 k → W'.heap[k]? = W.heap[k]? := fun k hk => hM.block k (g4 k (.inr (.inr hk))).2.1 (fun hS => by
    rcases hS with rfl | hS
    · exact h4 hk
    · exact h3 k hS hk)
  refine ⟨rv', h1.step (hM.mono (fun k _ hS => Or.elim hS (fun e => .inl e) (fun e => .inr (.inl e)))) (fun k hk => ?_), hO, fun k hk hE' => ?_, h4, fun k hk => (hE k hk).trans (h5 k hk)⟩
  · rcases hk with rfl | hk | hk
    · exact ⟨hO.lt, .inl (.inl rfl)⟩
    · refine ⟨(hO.own.lt k hk).2, ?_⟩
      rcases hN with hN | hN
      · rw [hN] at hk; exact .inl (.inr (.inl hk))
      · exact .inr (hN k hk)
    · exact ⟨Nat.lt_of_lt_of_le (g4 k (.inr (.inr hk))).2.1 hM.size, .inl (.inr (.inr hk))⟩
  · rcases hN with hN | hN
    · rw [hN] at hk; exact h3 k hk hE'
    · have := hN k hk; have := (g4 k (.inr (.inr hE'))).2.1; omega
/-- The same, and new blocks D are kept apart from here on. -/
theorem JJ.refE (h : JJ w W E pb pm q many last now B L last2 now2 turn2 l2) {last3 now3 turn3 : Int} {l3 : List RL} {rv rv' : Value} (D : Nat → Prop) (hrv : ∀ rv0, RefO W q many last2 now2 turn2 rv0 l2 → rv0 = rv) (hM : Mod (RefS q rv) W W') (hN : NearR W rv rv') (hO : RefO W' q many last3 now3 turn3 rv' l3)
    (hD : ∀ k, D k → W.heap.size ≤ k ∧ k < W'.heap.size ∧ rv'.ownBlock ≠ some k) : JJ w W' (fun k => E.1 k ∨ D k, W') pb pm q many last now B L last3 now3 turn3 l3 ∧ ∀ k, E.1 k → W'.heap[k]? = W.heap[k]? := by
  obtain ⟨rv0, h1, h2, h3, h4, h5⟩ := h
  obtain rfl := hrv rv0 h2
  obtain ⟨v, g1, g2, g3, g4⟩ := (_root_.id h1)
  have hq := h2.lt
  have hE : ∀ k, E.1 k → W'.heap[k]? = W.heap[k]? := fun k hk => hM.block k (g4 k (.inr (.inr hk))).2.1 (fun hS => by
    rcases hS with rfl | hS
    · exact h4 hk
    · exact h3 k hS hk)
  refine ⟨⟨rv', h1.step (hM.mono (fun k _ hS => Or.elim hS (fun e => .inl e) (fun e => .inr (.inl e)))) (fun k hk => ?_), hO, fun k hk hE' => ?_, fun hE' => ?_, fun k _ => rfl⟩, hE⟩
  · rcases hk with rfl | hk | hk | hk
    · exact ⟨hO.lt, .inl (.inl rfl)⟩
    · refine ⟨(hO.own.lt k hk).2, ?_⟩
      rcases hN with hN | hN
      · rw [hN] at hk; exact .inl (.inr (.inl hk))
      · exact .inr (hN k hk)
    · exact ⟨Nat.lt_of_lt_of_le (g4 k (.inr (.inr hk))).2.1 hM.size, .inl (.inr (.inr hk))⟩
    · exact ⟨(hD k hk).2.1, .inr (hD k hk).1⟩
  · rcases hE' with hE' | hE'
    · rcases hN with hN | hN
      · rw [hN] at hk; exact h3 k hk hE'
      · have := hN k hk; have := (g4 k (.inr (.inr hE'))).2.1; omega
    · exact (hD k hE').2.2 hk
  · rcases hE' with hE' | hE'
    · exact h4 hE'
    · have := (hD q hE').1; omega
/-- Fewer blocks are kept apart, as they are now. -/
theorem JJ.keep (h : JJ w W E pb pm q many last now B L last2 now2 turn2 l2) (G : Nat → Prop) (hG : ∀ k, G k → E.1 k) : JJ w W (G, W) pb pm q many last now B L last2 now2 turn2 l2 := by
  obtain ⟨rv, h1, h2, h3, h4, h5⟩ := h
  refine ⟨rv, (h1.weaken (G := fun k => k = q ∨ rv.ownBlock = some k ∨ G k) (fun k hk => ?_)).rebase, h2, fun k hk hE => h3 k hk (hG k hE), fun hE => h4 (hG q hE), fun k _ => rfl⟩
  rcases hk with hk | hk | hk
  · exact .inl hk
  · exact .inr (.inl hk)
  · exact .inr (.inr (hG k hk))
theorem refO_val {rv rv' : Value} (h : RefO W q many last2 now2 turn2 rv l2) (h' : RefO W q many last2 now2 turn2 rv' l2) : rv' = rv := by
  have := h.c4.symm.trans h'.c4
  exact (Option.some.inj this).symm
end
/-- The last that goes to t, if any. -/
theorem last_to (t : ByteArray) : ∀ L : List Link, (∀ x ∈ L, isTo t x = false) ∨ ∃ i, i < L.length ∧ isTo t (L.getD i default) = true ∧ ∀ j, i < j → j < L.length → isTo t (L.getD j default) = false
  | [] => .inl (by simp)
  | x :: L => by
    rcases last_to t L with h | ⟨i, h1, h2, h3⟩
    · cases hx : isTo t x with
      | false =>
        refine .inl fun y hy => ?_
        rcases List.mem_cons.1 hy with rfl | hy
        · exact hx
        · exact h y hy
      | true =>
        refine .inr ⟨0, by simp, hx, fun j hj hl => ?_⟩
        obtain ⟨k, rfl⟩ : ∃ k, j = k + 1 := ⟨j - 1, by omega⟩
        rw [List.getD_cons_succ]
        have hk : k < L.length := by simpa using hl
        exact h _ (getD_mem hk)
    · refine .inr ⟨i + 1, by simpa using h1, by rw [List.getD_cons_succ]; exact h2, fun j hj hl => ?_⟩
      obtain ⟨k, rfl⟩ : ∃ k, j = k + 1 := ⟨j - 1, by omega⟩
      rw [List.getD_cons_succ]
      exact h3 k (by omega) (by simpa using hl)
/-- What a step of both does: what the pool tells (ev), what the reference tells (er). -/
structure Both (w : World) (pb pm q : Nat) (many : Int) (fp fr : FuncId) (ap ar : Array Value) (last now : Int) (B : List (Int × ByteArray)) (P : List (Link × Int)) (turn : Int) (l : List RL) (ep er : Ending) (last' now' : Int) (B' : List (Int × ByteArray)) (P' : List (Link × Int)) (turn' : Int) : Prop where
  pool : ∀ W E last2 now2 turn2 l2, JJ w W E pb pm q many last now B (P.map (·.1)) last2 now2 turn2 l2 → Calls Tryd.prog fp ap W fun e w' => e = ep ∧ JJ w w' E pb pm q many last' now' B' (P'.map (·.1)) last2 now2 turn2 l2
  ref : ∀ W E last2 now2 B2 L2, JJ w W E pb pm q many last2 now2 B2 L2 last now turn l → Calls Tryd.prog fr ar W fun e w' => e = er ∧ ∃ l', Rel last' turn' B' P' l' ∧ JJ w w' E pb pm q many last2 now2 B2 L2 last' now' turn' l'
section
variable {w : World} {pb pm q : Nat} {many last now turn : Int} {B : List (Int × ByteArray)} {P : List (Link × Int)} {l : List RL}
theorem map_fst (P : List (Link × Int)) (i : Nat) (hi : i < P.length) : (P.map (·.1)).getD i default = P[i].1 := by
  rw [List.getD_eq_getElem?_getD, List.getElem?_map, List.getElem?_eq_getElem hi]; rfl
theorem Rel.ats (h : Rel last turn B P l) : ∀ x ∈ P.map (·.1), 0 ≤ x.at_ ∧ x.at_ ≤ 1000000 := fun x hx => by
  obtain ⟨p, hp, rfl⟩ := List.mem_map.1 hx
  obtain ⟨i, hi, rfl⟩ := List.getElem_of_mem hp
  exact (h.bd _ (h.mem hi).1).2
theorem Rel.idsP (h : Rel last turn B P l) (hl : last ≤ 1000) : ∀ x ∈ P.map (·.1), 0 ≤ x.id ∧ x.id ≤ 1000000 := fun x hx => by
  obtain ⟨p, hp, rfl⟩ := List.mem_map.1 hx
  obtain ⟨i, hi, rfl⟩ := List.getElem_of_mem hp
  have := (h.bd _ (h.mem hi).1).1
  simp only [mkR] at this
  omega
theorem back_both (h : Rel last turn B P l) (id : Int) (hid : -9223372036854775808 ≤ id ∧ id ≤ 9223372036854775807) (good : Bool) (hnow : 0 ≤ now ∧ now ≤ 1000000) (ht : 0 ≤ turn ∧ turn ≤ 1000) (hl : l.length ≤ 1000) :
    ∃ ev er B' P' turn', ToldC.ErrIs ev er ∧ (turn ≤ turn' ∧ turn' ≤ turn + 1) ∧ B'.length + P'.length ≤ B.length + P.length ∧ Both w pb pm q many 11 16 #[.pointer (some ⟨pb, 0, none⟩), .int .i64 id, .bool good] #[.pointer (some ⟨q, 0, none⟩), .int .i64 id, .bool good] last now B P turn l (.returned ev) (.returned (.int .i64 er)) last now B' P' turn' := by
  have hlen := h.len
  cases hf : findB B id with
  | none =>
    refine ⟨_, 5, B, P, turn, .err 5, ⟨Int.le_refl _, by omega⟩, Nat.le_refl _, fun W E last2 now2 turn2 l2 hJ => ?_, fun W E last2 now2 B2 L2 hJ => ?_⟩
    · refine pool_side hJ (fun F hp => (back_none_ps hp id hid good hf).mono ?_)
      rintro e w' ⟨he, rfl⟩
      exact ⟨he, hp⟩
    · obtain ⟨rv, h1, h2, h3, h4, h5⟩ := (_root_.id hJ)
      refine (rback_none h2 id good (by omega) (h.noPlace hf)).mono ?_
      rintro e w' ⟨he, rfl⟩
      exact ⟨he, l, h, hJ⟩
  | some t =>
    obtain ⟨n, hn, g1, g2, g3, g4, g5⟩ := h.place hf
    have hgd : l.getD n default = l[n] := by rw [List.getD_eq_getElem?_getD, List.getElem?_eq_getElem hn]; rfl
    cases good with
    | true =>
      refine ⟨_, 0, delB B id, P ++ [(⟨id, now, t⟩, turn + 1)], turn + 1, .nil, ⟨by omega, Int.le_refl _⟩, (by have := (h.backGood now hnow hn g1 g2 g3).len; rw [List.length_set] at this; omega), fun W E last2 now2 turn2 l2 hJ => ?_, fun W E last2 now2 B2 L2 hJ => ?_⟩
      · refine pool_side hJ (fun F hp => (back_ps hp id hid t hf true (by rw [List.length_map]; omega)).mono ?_)
        rintro e w' ⟨he, hp'⟩
        exact ⟨he, by rw [List.map_append]; exact hp'⟩
      · obtain ⟨rv, h1, h2, h3, h4, h5⟩ := (_root_.id hJ)
        refine (rback_hit h2 id true (by omega) n hn g4 g5 ⟨ht.1, by omega⟩).mono ?_
        rintro e w' ⟨rv', he, hM, hN, hO⟩
        rw [if_pos rfl, hgd, g2, g3] at hO
        exact ⟨he, _, h.backGood now hnow hn g1 g2 g3, hJ.ref (fun rv0 h0 => refO_val h2 h0) hM hN hO⟩
    | false =>
      refine ⟨_, 0, delB B id, P, turn, .nil, ⟨Int.le_refl _, by omega⟩, (by have := (h.backBad hn g1 g2 g3).len; rw [List.length_append, List.length_take, List.length_drop] at this; omega), fun W E last2 now2 turn2 l2 hJ => ?_, fun W E last2 now2 B2 L2 hJ => ?_⟩
      · refine pool_side hJ (fun F hp => (back_ps hp id hid t hf false (by rw [List.length_map]; omega)).mono ?_)
        rintro e w' ⟨he, hp'⟩
        exact ⟨he, hp'⟩
      · obtain ⟨rv, h1, h2, h3, h4, h5⟩ := (_root_.id hJ)
        refine (rback_hit h2 id false (by omega) n hn g4 g5 ⟨ht.1, by omega⟩).mono ?_
        rintro e w' ⟨rv', he, hM, hN, hO⟩
        rw [if_neg (by simp)] at hO
        exact ⟨he, _, h.backBad hn g1 g2 g3, hJ.ref (fun rv0 h0 => refO_val h2 h0) hM hN hO⟩
theorem nodup_inj : ∀ {l : List RL}, (l.map (·.id)).Nodup → ∀ {x y : RL}, x ∈ l → y ∈ l → x.id = y.id → x = y
  | [], _, _, _, h, _, _ => by cases h
  | a :: l, hn, x, y, hx, hy, e => by
    rw [List.map_cons] at hn
    obtain ⟨h1, h2⟩ := List.nodup_cons.1 hn
    have h1' : ∀ z ∈ l, z.id ≠ a.id := fun z hz e => h1 (List.mem_map.2 ⟨z, hz, e⟩)
    rcases List.mem_cons.1 hx with ex | hx'
    · rcases List.mem_cons.1 hy with ey | hy'
      · rw [ex, ey]
      · exact absurd (by rw [← e, ex]) (h1' y hy')
    · rcases List.mem_cons.1 hy with ey | hy'
      · exact absurd (by rw [e, ey]) (h1' x hx')
      · exact nodup_inj h2 hx' hy' e
theorem to_eq {t : ByteArray} {x : Link} (h : isTo t x = true) : x.to = t := by
  unfold isTo at h
  rw [ByteArray.toList_eq, ByteArray.toList_eq, beq_iff_eq] at h
  obtain ⟨xi, xa, ⟨⟨y⟩⟩⟩ := x
  obtain ⟨⟨z⟩⟩ := t
  simp only at h
  simp only [h]
theorem ps_l {w0 W : World} {F : (Nat → Prop) × World} {L' : List Link} {B' : List (Int × ByteArray)} {L2 : List Link} {B2 : List (Int × ByteArray)} (h : PS w0 W F pb pm many last now B' L') (e1 : B' = B2) (e2 : L' = L2) : PS w0 W F pb pm many last now B2 L2 := by subst e1; subst e2; exact h
theorem take_both (h : Rel last turn B P l) (t : ByteArray) (hts : t.size ≤ maxLen) (hm : 1 ≤ many ∧ many ≤ 8) (hcap : (l.length : Int) ≤ many) (hla : 0 ≤ last ∧ last ≤ 1000) :
    ∃ (id : Int) (fr : Bool) (ev : Value) (er : Int) (last' : Int) (B' : List (Int × ByteArray)) (P' : List (Link × Int)), ToldC.ErrIs ev er ∧ (last ≤ last' ∧ last' ≤ last + 1) ∧ ((B'.length + P'.length : Nat) : Int) ≤ many ∧
      Both w pb pm q many 9 15 #[.pointer (some ⟨pb, 0, none⟩), .string t] #[.pointer (some ⟨q, 0, none⟩), .string t] last now B P turn l (.returned (.tuple #[.int .i64 id, .bool fr, ev])) (.returned (.tuple #[.int .i64 id, .bool fr, .int .i64 er])) last' now B' P' turn := by
  have hlen := h.len
  have hi := h.idsP (by omega)
  have hPl : (P.map (·.1)).length = P.length := List.length_map _
  cases ht : tokL t.data.toList with
  | false =>
    refine ⟨0, false, _, 2, last, B, P, .err 2, ⟨Int.le_refl _, by omega⟩, by omega, fun W E last2 now2 turn2 l2 hJ => ?_, fun W E last2 now2 B2 L2 hJ => ?_⟩
    · exact pool_side hJ (fun F hp => take_bad_ps hp t ht)
    · refine (rtake_bad t hts ht).mono ?_
      rintro e w' ⟨he, rfl⟩
      exact ⟨he, l, h, hJ⟩
  | true =>
    rcases last_to t (P.map (·.1)) with hno | ⟨i, hi1, hi2, hi3⟩
    · have hnoP : ∀ i (hi : i < P.length), isTo t P[i].1 = false := fun i hi => by rw [← map_fst P i hi]; exact hno _ (getD_mem (by omega))
      by_cases hfull : many ≤ (l.length : Int)
      · by_cases h0 : P.length = 0
        · have hP : P = [] := List.eq_nil_of_length_eq_zero h0
          subst hP
          refine ⟨0, false, _, 4, last, B, [], .err 4, ⟨Int.le_refl _, by omega⟩, by simp at hlen ⊢; omega, fun W E last2 now2 turn2 l2 hJ => ?_, fun W E last2 now2 B2 L2 hJ => ?_⟩
          · exact pool_side hJ (fun F hp => take_full_ps hp t ht (by omega) (by simp at hlen; omega))
          · obtain ⟨rv, h1, h2, h3, h4, h5⟩ := (_root_.id hJ)
            refine (rtake_ok h2 t hts ht (by omega) (by omega) (by omega)).mono ?_
            rintro e w' ⟨rv', hM, hN, (⟨n, x, hL, _⟩ | ⟨_, (⟨_, _, he, hO⟩ | ⟨_, (⟨_, n, _, hL, _⟩ | ⟨hf, _⟩)⟩)⟩)⟩
            · have := h.noBest hnoP hL; omega
            · exact ⟨he, l, h, hJ.ref (fun rv0 h0 => refO_val h2 h0) hM hN hO⟩
            · have := h.noOld h0 hL; omega
            · exact absurd hfull hf
        · have hP0 : 0 < P.length := by omega
          refine ⟨last + 1, true, _, 0, last + 1, B ++ [(last + 1, t)], P.drop 1, .nil, ⟨by omega, Int.le_refl _⟩, by simp; omega, fun W E last2 now2 turn2 l2 hJ => ?_, fun W E last2 now2 B2 L2 hJ => ?_⟩
          · refine pool_side hJ (fun F hp => (take_ps hp t ht (by omega) (by omega) (by omega) (by omega) hi).mono ?_)
            rintro e w' (⟨k, hk, _, hx, _⟩ | ⟨_, (⟨_, hn, _⟩ | ⟨he, (⟨_, _, hp'⟩ | ⟨hf, _⟩)⟩)⟩)
            · rw [hno _ (getD_mem hk)] at hx; cases hx
            · have := congrArg List.length hn; simp at this; omega
            · have hnew : last + 1 ∉ bids B := fun hm => by
                have h1 : (bids B).Perm ((l.filter isB).map (·.id)) := by
                  have := h.busy.map (·.1)
                  rw [List.map_map] at this
                  exact this
                obtain ⟨x, hx, e⟩ := List.mem_map.1 (h1.mem_iff.1 hm)
                have := (h.bd x (List.mem_filter.1 hx).1).1
                omega
              exact ⟨he, ps_l hp' (putB_new hnew) (by rw [List.map_drop])⟩
            · omega
          · obtain ⟨rv, h1, h2, h3, h4, h5⟩ := (_root_.id hJ)
            refine (rtake_ok h2 t hts ht (by omega) (by omega) (by omega)).mono ?_
            rintro e w' ⟨rv', hM, hN, (⟨n, x, hL, _⟩ | ⟨_, (⟨_, hL, _⟩ | ⟨he, (⟨_, n, hn, hL, hO⟩ | ⟨hf, _⟩)⟩)⟩)⟩
            · have := h.noBest hnoP hL; omega
            · obtain ⟨n, e, _⟩ := h.oldest hP0 hL; omega
            · obtain ⟨n', e', hx⟩ := h.oldest hP0 hL
              obtain rfl : n = n' := by omega
              exact ⟨he, _, (h.dropOld hP0 hx).takeNew hla.1 t, hJ.ref (fun rv0 h0 => refO_val h2 h0) hM hN hO⟩
            · exact absurd hfull hf
      · refine ⟨last + 1, true, _, 0, last + 1, B ++ [(last + 1, t)], P, .nil, ⟨by omega, Int.le_refl _⟩, by simp; omega, fun W E last2 now2 turn2 l2 hJ => ?_, fun W E last2 now2 B2 L2 hJ => ?_⟩
        · have hnew : last + 1 ∉ bids B := fun hm => by
            have h1 : (bids B).Perm ((l.filter isB).map (·.id)) := by
              have := h.busy.map (·.1)
              rw [List.map_map] at this
              exact this
            obtain ⟨x, hx, e⟩ := List.mem_map.1 (h1.mem_iff.1 hm)
            have := (h.bd x (List.mem_filter.1 hx).1).1
            omega
          refine pool_side hJ (fun F hp => (take_new_ps hp t ht hno (by omega) (by omega) (by omega) hi).mono ?_)
          rintro e w' ⟨he, hp'⟩
          exact ⟨he, ps_l hp' (putB_new hnew) rfl⟩
        · obtain ⟨rv, h1, h2, h3, h4, h5⟩ := (_root_.id hJ)
          refine (rtake_ok h2 t hts ht (by omega) (by omega) (by omega)).mono ?_
          rintro e w' ⟨rv', hM, hN, (⟨n, x, hL, _⟩ | ⟨_, (⟨hf, _⟩ | ⟨he, (⟨hf, _⟩ | ⟨hf, hO⟩)⟩)⟩)⟩
          · have := h.noBest hnoP hL; omega
          · exact absurd hf hfull
          · exact absurd hf hfull
          · exact ⟨he, _, h.takeNew hla.1 t, hJ.ref (fun rv0 h0 => refO_val h2 h0) hM hN hO⟩
    · have hiP : i < P.length := by omega
      have e1 := map_fst P i hiP
      rw [e1] at hi2
      have hl3 : ∀ j, i < j → ∀ hj : j < P.length, isTo t P[j].1 = false := fun j hij hj => by rw [← map_fst P j hj]; exact hi3 j hij (by omega)
      have hto : P[i].1.to = t ∨ True := .inr trivial
      refine ⟨P[i].1.id, false, _, 0, last, B ++ [(P[i].1.id, P[i].1.to)], P.take i ++ P.drop (i + 1), .nil, ⟨Int.le_refl _, by omega⟩, by simp [List.length_take]; omega, fun W E last2 now2 turn2 l2 hJ => ?_, fun W E last2 now2 B2 L2 hJ => ?_⟩
      · have hto := to_eq hi2
        have hnew : P[i].1.id ∉ bids B := fun hm => by
          have h1 : (bids B).Perm ((l.filter isB).map (·.id)) := by
            have := h.busy.map (·.1)
            rw [List.map_map] at this
            exact this
          obtain ⟨x, hx, e⟩ := List.mem_map.1 (h1.mem_iff.1 hm)
          obtain ⟨hxl, hxb⟩ := List.mem_filter.1 hx
          have hmm := (h.mem hiP).1
          have hne : x ≠ mkR P[i] := fun e => by subst e; simp [isB, mkR] at hxb
          exact (nodup_inj h.nd hxl hmm (by simpa [mkR] using e)) |> hne
        refine pool_side hJ (fun F hp => (take_hit_ps hp t ht i (by omega) (by rw [e1]; exact hi2) hi3 (by omega) (by omega) (by omega) (by omega) hi).mono ?_)
        rintro e w' ⟨he, hp'⟩
        rw [e1] at he hp'
        exact ⟨he, ps_l hp' (by rw [putB_new hnew, hto]) (by rw [List.map_append, List.map_take, List.map_drop])⟩
      · obtain ⟨rv, h1, h2, h3, h4, h5⟩ := (_root_.id hJ)
        refine (rtake_ok h2 t hts ht (by omega) (by omega) (by omega)).mono ?_
        rintro e w' ⟨rv', hM, hN, (⟨n, x, hL, hx, he, hO⟩ | ⟨hL, _⟩)⟩
        · obtain ⟨n', e', hx'⟩ := h.best hiP hi2 hl3 hL
          obtain rfl : n = n' := by omega
          rw [hx'] at hx
          obtain rfl := Option.some.inj hx
          exact ⟨he, _, h.takeOld hiP hx', hJ.ref (fun rv0 h0 => refO_val h2 h0) hM hN hO⟩
        · obtain ⟨n', e', _⟩ := h.best hiP hi2 hl3 hL; omega
def blk (a : Option Addr) (k : Nat) : Prop := a.map (·.block) = some k
/-- What Tick tells, and who goes. -/
structure TickOut (ev : Value) (er : Int) (t old now now' : Int) (P P' : List (Link × Int)) (G : List Int) : Prop where
  told : ToldC.ErrIs ev er
  nw : now' = now ∨ now' = t ∧ 0 ≤ t ∧ t ≤ 1000000
  sub : P'.length ≤ P.length
/-- Tick of the reference, and behind it the pool's. -/
theorem tick_both (h : Rel last turn B P l) (t old : Int) (hnow : 0 ≤ now ∧ now ≤ 1000000) (hl : l.length ≤ 1000) :
    ∃ ev er now' P' G, TickOut ev er t old now now' P P' G ∧
      (∀ W E last2 now2 B2 L2, JJ w W E pb pm q many last2 now2 B2 L2 last now turn l → Calls Tryd.prog 17 #[.pointer (some ⟨q, 0, none⟩), .int .i64 t, .int .i64 old] W fun e w' => ∃ ga gn gc, e = .returned (.tuple #[.slice ga gn gc, .int .i64 er]) ∧ RowsL.Own w' W.heap.size 3 (.slice ga gn gc) (vI G) ∧
        ∃ l', Rel last turn B P' l' ∧ JJ w w' (fun k => E.1 k ∨ blk ga k, w') pb pm q many last2 now2 B2 L2 last now' turn l' ∧ ∀ k, E.1 k → w'.heap[k]? = W.heap[k]?) ∧
      (∀ W E last2 now2 turn2 l2, JJ w W E pb pm q many last now B (P.map (·.1)) last2 now2 turn2 l2 → Calls Tryd.prog 14 #[.pointer (some ⟨pb, 0, none⟩), .int .i64 t, .int .i64 old] W fun e w' => ∃ xa xn xc, e = .returned (.tuple #[.slice xa xn xc, ev]) ∧ RowsL.Own w' W.heap.size 3 (.slice xa xn xc) (vI G) ∧
        JJ w w' E pb pm q many last now' B (P'.map (·.1)) last2 now2 turn2 l2) := by
  have hlen := h.len
  have hats := h.ats
  by_cases hr : (0 ≤ t ∧ t ≤ 1000000) ∧ (0 ≤ old ∧ old ≤ 1000000)
  · obtain ⟨hr1, hr2⟩ := hr
    by_cases hs : t < now
    · refine ⟨_, 6, now, P, [], ⟨.err 6, .inl rfl, Nat.le_refl _⟩, fun W E last2 now2 B2 L2 hJ => ?_, fun W E last2 now2 turn2 l2 hJ => ?_⟩
      · obtain ⟨rv, h1, h2, h3, h4, h5⟩ := (_root_.id hJ)
        refine (rtick_state h2 t old hr1 hr2 hs).mono ?_
        rintro e w' ⟨he, rfl⟩
        exact ⟨none, 0, 0, he, RowsL.Own.nil _ _ _, l, h, hJ.keep _ (fun k hk => hk.elim (fun h => h) (fun h => by cases h)), fun _ _ => rfl⟩
      · obtain ⟨rv, ⟨v, g1, _⟩, _⟩ := (_root_.id hJ)
        refine (tick_state g1 t old hr1 hr2 hs).mono ?_
        rintro e w' ⟨he, hB⟩
        exact ⟨none, 0, 0, he, RowsL.Own.nil _ _ _, hJ.below hB⟩
    · refine ⟨_, 0, t, _, goneL t old (P.map (·.1)), ⟨.nil, .inr ⟨rfl, hr1⟩, List.length_filter_le (fun p => !goneB t old p.1) P⟩, fun W E last2 now2 B2 L2 hJ => ?_, fun W E last2 now2 turn2 l2 hJ => ?_⟩
      · obtain ⟨rv, h1, h2, h3, h4, h5⟩ := (_root_.id hJ)
        refine (rtick_ok h2 t old hr1 hr2 (by omega) hl (fun x hx => (h.bd x hx).2)).mono ?_
        rintro e w' ⟨ga, gn, gc, rv', G, he, hs, hp, hg, hO, hN, hap, hM⟩
        rw [h.gone t old hs hp] at hg
        refine ⟨ga, gn, gc, he, hg, _, h.tick t old, hJ.refE (blk ga) (fun rv0 h0 => refO_val h2 h0) (hM.mono (fun k _ e => .inl e)) hN hO (fun k hk => ?_)⟩
        have hgl := RowsL.Own.lt hg k (by unfold blk at hk; cases ga <;> exact hk)
        exact ⟨hgl.1, hgl.2, hap k hk⟩
      · obtain ⟨rv, h1, h2, h3, h4, h5⟩ := (_root_.id hJ)
        refine (tick_ps h1 t old hr1 hr2 (by omega) hnow.1 (by rw [List.length_map]; omega) hats).mono ?_
        rintro e w' ⟨ga, gn, gc, he, hg, hp⟩
        have hss := hp.same
        refine ⟨ga, gn, gc, he, hg, rv, ?_, h2.of_blocks (hss q (.inl rfl)) (fun k hk => hss k (.inr (.inl hk))), h3, h4, fun k hk => (hss k (.inr (.inr hk))).trans (h5 k hk)⟩
        have hp2 := hp.rebase
        rw [List.filter_map] at hp2
        exact hp2
  · refine ⟨_, 1, now, P, [], ⟨.err 1, .inl rfl, Nat.le_refl _⟩, fun W E last2 now2 B2 L2 hJ => ?_, fun W E last2 now2 turn2 l2 hJ => ?_⟩
    · refine (rtick_range t old hr).mono ?_
      rintro e w' ⟨he, rfl⟩
      exact ⟨none, 0, 0, he, RowsL.Own.nil _ _ _, l, h, hJ.keep _ (fun k hk => hk.elim (fun h => h) (fun h => by cases h)), fun _ _ => rfl⟩
    · refine (tick_range t old hr).mono ?_
      rintro e w' ⟨he, hB⟩
      exact ⟨none, 0, 0, he, RowsL.Own.nil _ _ _, hJ.below hB⟩
end
end Go.Proofs.YtcdhjbeeehjpiaaDoor.PoolX
