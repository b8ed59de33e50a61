/-
  Picker and reference side by side: what each step does to both.
  Conditions: where both lie.
-/
import Derived.Test.YtfgplghjgjnggaaDoorPickDrop
import Derived.Test.YtfgplghjgjnggaaDoorPickRefD
import Derived.Test.YtfgplghjgjnggaaDoorPickRefE
import Derived.Test.YtfgplghjgjnggaaDoorTold
namespace Go.Proofs.YtfgplghjgjnggaaDoor.PickS
open Go.RowKit MapsL ModL RowsK PickC PickR
set_option linter.unusedSimpArgs false
set_option linter.unusedVariables false

theorem ids_pw {l : List Ent} (hk : Keys (encP l)) : l.Pairwise fun x y => x.id ≠ y.id := by
  have := hk.1
  unfold encP at this
  rw [List.pairwise_map] at this
  exact this.imp fun h e => h (by simp [e])
theorem idx_uniq {l : List Ent} (hp : l.Pairwise fun x y => x.id ≠ y.id) {i j : Nat} {x y : Ent} (hi : l[i]? = some x) (hj : l[j]? = some y) (h : x.id = y.id) : i = j := by
  obtain ⟨hi1, rfl⟩ := List.getElem?_eq_some_iff.1 hi
  obtain ⟨hj1, rfl⟩ := List.getElem?_eq_some_iff.1 hj
  rw [List.pairwise_iff_getElem] at hp
  rcases Nat.lt_trichotomy i j with h1 | h1 | h1
  · exact absurd h (hp i j hi1 hj1 h1)
  · exact h1
  · exact absurd h.symm (hp j i hj1 hi1 h1)
theorem upd_set {l : List Ent} (hp : l.Pairwise fun x y => x.id ≠ y.id) {n : Nat} {x : Ent} (hn : l[n]? = some x) (g : Ent → Ent) : updE l x.id g = l.set n (g x) := by
  apply List.ext_getElem?
  intro i
  rw [updE, List.getElem?_map, List.getElem?_set]
  by_cases h : n = i
  · subst h
    rw [hn, if_pos rfl, if_pos (List.getElem?_eq_some_iff.1 hn).1]
    simp
  · rw [if_neg h]
    cases hy : l[i]? with
    | none => rfl
    | some y =>
      have : y.id ≠ x.id := fun e => h (idx_uniq hp hn hy e.symm)
      simp [this]
theorem filter_erase : ∀ {l : List Ent} (hp : l.Pairwise fun x y => x.id ≠ y.id) {n : Nat} {x : Ent} (hn : l[n]? = some x), (l.filter fun e => !(e.id == x.id)) = l.eraseIdx n := by
  intro l
  induction l with
  | nil => intro _ n x hn; simp at hn
  | cons a l ih =>
    intro hp n x hn
    obtain ⟨h1, h2⟩ := List.pairwise_cons.1 hp
    cases n with
    | zero =>
      simp only [List.getElem?_cons_zero, Option.some.injEq] at hn
      subst hn
      rw [List.eraseIdx_cons_zero, List.filter_cons]
      have e : (l.filter fun e => !(e.id == a.id)) = l := List.filter_eq_self.2 fun y hy => by
        have := h1 y hy
        simp only [Bool.not_eq_true', beq_eq_false_iff_ne, ne_eq]
        exact fun e => this e.symm
      simp [e]
    | succ n =>
      simp only [List.getElem?_cons_succ] at hn
      rw [List.eraseIdx_cons_succ, List.filter_cons]
      have : a.id ≠ x.id := h1 x (List.mem_of_getElem? hn)
      simp [this, ih h2 hn]
/-- Both name the same one. -/
theorem best_lead {l : List Ent} (hp : l.Pairwise fun x y => x.id ≠ y.id) {id sc k : Int} {ok : Bool} (hb : Best (fun _ => True) l id sc ok) (hl : Lead l k) : ok = decide (0 ≤ k) ∧ sc = scAt l k ∧ ((k = -1 ∧ id = 0) ∨ ∃ (n : Nat) (x : Ent), k = n ∧ l[n]? = some x ∧ id = x.id) := by
  rcases hl with ⟨rfl, hno⟩ | ⟨n, x, rfl, hn, hxw, hxb⟩
  · rcases hb with ⟨h1, h2, h3, _⟩ | ⟨_, e, he, _, hew, _⟩
    · exact ⟨by rw [h1]; rfl, by rw [h3]; rfl, .inl ⟨rfl, h2⟩⟩
    · rw [hno e he] at hew; cases hew
  · rcases hb with ⟨_, _, _, h4⟩ | ⟨h1, e, he, _, hew, h3, h5, h6⟩
    · rw [h4 x (List.mem_of_getElem? hn) trivial] at hxw; cases hxw
    · have e1 := hxb e he hew
      have e2 := h6 x (List.mem_of_getElem? hn) trivial hxw
      have hex : e = x := by
        obtain ⟨j, hj, hje⟩ := List.getElem_of_mem he
        have hj2 : l[j]? = some e := by rw [List.getElem?_eq_getElem hj, hje]
        have hid : e.id = x.id := by
          unfold PickC.ahead at e1 e2
          omega
        obtain rfl := idx_uniq hp hj2 hn hid
        rw [hj2] at hn
        exact Option.some.inj hn
      subst hex
      refine ⟨by rw [h1]; simp, by rw [scAt_some hn, h5], .inr ⟨n, e, rfl, hn, h3.symm⟩⟩
theorem IsPick.mod {w w' : World} {b m : Nat} {l : List Ent} (h : IsPick w b m l) {S : Nat → Prop} (hM : Mod S w w') (h1 : ¬ S b) (h2 : ¬ S m) (h3 : ∀ e ∈ l, ¬ S e.a) : IsPick w' b m l :=
  ⟨h.map.of_block (hM.block m h.lt.2 h2), (hM.cell (p := ⟨b, 0, none⟩) h.lt.1 h1).trans h.c0, h.ne, fun e he => (h.ents e he).of_block (hM.block _ (h.ents e he).lt (h3 e he)), h.apart⟩
/-- Both lie so, and apart; V is one more block that none of them is. -/
structure St (B V P M Q : Nat) (W : World) (l r : List Ent) (v : Value) : Prop where
  pick : IsPick W P M l
  ref : RefP W Q v r
  fo : ∀ g, v.ownBlock = some g → g ≠ P ∧ g ≠ M ∧ g ≠ V ∧ ∀ e ∈ l, e.a ≠ g
  fq : Q ≠ P ∧ Q ≠ M ∧ Q ≠ V ∧ P ≠ V ∧ M ≠ V ∧ ∀ e ∈ l, e.a ≠ Q ∧ e.a ≠ V
  low : B ≤ P ∧ B ≤ M ∧ B ≤ Q ∧ ∀ e ∈ l, B ≤ e.a
  vlt : V < W.heap.size
  len : l.length ≤ 100 ∧ r.length ≤ 100
variable {B V P M Q : Nat} {W W' : World} {l r : List Ent} {v : Value}
theorem St.below (h : St B V P M Q W l r v) (hB : Below W.heap.size W W') : St B V P M Q W' l r v :=
  ⟨h.pick.below hB, h.ref.below hB, h.fo, h.fq, h.low, Nat.lt_of_lt_of_le h.vlt hB.size, h.len⟩
/-- What stays: V's cells; all that is below B. -/
def Keeps (B V : Nat) (W W' : World) : Prop := Below B W W' ∧ ∀ i, W'.cell? ⟨V, i, none⟩ = W.cell? ⟨V, i, none⟩
theorem Keeps.refl (B V : Nat) (W : World) : Keeps B V W W := ⟨Below.refl _ _, fun _ => rfl⟩
/-- The picker's step. -/
theorem St.pickStep (h : St B V P M Q W l r v) {l' : List Ent} (hp : IsPick W' P M l') {S : Nat → Prop} (hM : Mod S W W') (hS : ∀ k, S k → k = M ∨ ∃ e ∈ l, e.a = k) (hl' : ∀ e ∈ l', (∃ y ∈ l, y.a = e.a) ∨ W.heap.size ≤ e.a) (hlen : l'.length ≤ 100) :
    St B V P M Q W' l' r v ∧ (B ≤ W.heap.size → Keeps B V W W') := by
  have hQS : ¬ S Q := fun hs => by
    rcases hS Q hs with e | ⟨e, he, e2⟩
    · exact h.fq.2.1 e
    · exact (h.fq.2.2.2.2.2 e he).1 e2
  have hVS : ¬ S V := fun hs => by
    rcases hS V hs with e | ⟨e, he, e2⟩
    · exact h.fq.2.2.2.2.1 e.symm
    · exact (h.fq.2.2.2.2.2 e he).2 e2
  have hgS : ∀ g, v.ownBlock = some g → ¬ S g := fun g hg hs => by
    rcases hS g hs with e | ⟨e, he, e2⟩
    · exact (h.fo g hg).2.1 e
    · exact (h.fo g hg).2.2.2 e he e2
  have hql := h.ref.lt
  refine ⟨⟨hp, h.ref.mod hM hQS hgS, fun g hg => ⟨(h.fo g hg).1, (h.fo g hg).2.1, (h.fo g hg).2.2.1, fun e he => ?_⟩, ⟨h.fq.1, h.fq.2.1, h.fq.2.2.1, h.fq.2.2.2.1, h.fq.2.2.2.2.1, fun e he => ?_⟩, ⟨h.low.1, h.low.2.1, h.low.2.2.1, fun e he => ?_⟩, Nat.lt_of_lt_of_le h.vlt hM.size, hlen, h.len.2⟩, fun hB => ⟨hM.toBelow hB (fun k hk hs => ?_), fun i => hM.cell (p := ⟨V, i, none⟩) h.vlt hVS⟩⟩
  · rcases hl' e he with ⟨y, hy, e2⟩ | h2
    · rw [← e2]; exact (h.fo g hg).2.2.2 y hy
    · have := (h.ref.own.lt g hg).2; omega
  · rcases hl' e he with ⟨y, hy, e2⟩ | h2
    · rw [← e2]; exact h.fq.2.2.2.2.2 y hy
    · have := h.vlt; omega
  · rcases hl' e he with ⟨y, hy, e2⟩ | h2
    · rw [← e2]; exact h.low.2.2.2 y hy
    · have := h.low.2.2.1; omega
  · rcases hS k hs with e | ⟨e, he, e2⟩
    · have := h.low.2.1; omega
    · have := h.low.2.2.2 e he; omega
/-- The reference's step. -/
theorem St.refStep (h : St B V P M Q W l r v) {r' : List Ent} {v' : Value} (hr : RefP W' Q v' r') {S : Nat → Prop} (hM : Mod S W W') (hS : ∀ k, S k → k = Q ∨ v.ownBlock = some k) (hv' : ∀ g, v'.ownBlock = some g → v.ownBlock = some g ∨ W.heap.size ≤ g) (hlen : r'.length ≤ 100) :
    St B V P M Q W' l r' v' ∧ (B ≤ W.heap.size → Keeps B V W W') := by
  have hPS : ¬ S P := fun hs => by
    rcases hS P hs with e | e
    · exact h.fq.1 e.symm
    · exact (h.fo P e).1 rfl
  have hMS : ¬ S M := fun hs => by
    rcases hS M hs with e | e
    · exact h.fq.2.1 e.symm
    · exact (h.fo M e).2.1 rfl
  have hVS : ¬ S V := fun hs => by
    rcases hS V hs with e | e
    · exact h.fq.2.2.1 e.symm
    · exact (h.fo V e).2.2.1 rfl
  have hES : ∀ e ∈ l, ¬ S e.a := fun e he hs => by
    rcases hS _ hs with e2 | e2
    · exact (h.fq.2.2.2.2.2 e he).1 e2
    · exact (h.fo _ e2).2.2.2 e he rfl
  refine ⟨⟨IsPick.mod h.pick hM hPS hMS hES, hr, fun g hg => ?_, h.fq, h.low, Nat.lt_of_lt_of_le h.vlt hM.size, h.len.1, hlen⟩, fun hB => ⟨hM.toBelow hB (fun k hk hs => ?_), fun i => hM.cell (p := ⟨V, i, none⟩) h.vlt hVS⟩⟩
  · rcases hv' g hg with h1 | h1
    · exact h.fo g h1
    · have hl := h.pick.lt
      refine ⟨by omega, by omega, by have := h.vlt; omega, fun e he => ?_⟩
      have := (h.pick.ents e he).lt
      omega
  · rcases hS k hs with e | e
    · have := h.low.2.2.1; omega
    · have h1 := (h.ref.own.lt k e).1
      have := h.low.2.2.1
      omega
/-- What a step does to both, and what both say. -/
def Step (B V P M Q : Nat) (l : List Ent) (v : Value) (fc fr : FuncId) (ac ar : Array Value) : Prop :=
  ∃ (er : Value) (kk : Int) (Mid : World → Prop), ToldC.ErrIs er kk ∧
    (∀ W, St B V P M Q W l l v → B ≤ W.heap.size → Calls Tryd.prog fc ac W fun e W' => e = .returned er ∧ Mid W' ∧ Keeps B V W W' ∧ B ≤ W'.heap.size) ∧
    (∀ W, Mid W → B ≤ W.heap.size → Calls Tryd.prog fr ar W fun e W' => e = .returned (.int .i64 kk) ∧ (∃ l' v', St B V P M Q W' l' l' v') ∧ Keeps B V W W' ∧ B ≤ W'.heap.size)
/-- Neither turns anything. -/
theorem Step.still {fc fr : FuncId} {ac ar : Array Value} (er : Value) (kk : Int) (he : ToldC.ErrIs er kk)
    (h1 : ∀ W, St B V P M Q W l l v → Calls Tryd.prog fc ac W fun e W' => e = .returned er ∧ W = W') (h2 : ∀ W, St B V P M Q W l l v → Calls Tryd.prog fr ar W fun e W' => e = .returned (.int .i64 kk) ∧ W = W') : Step B V P M Q l v fc fr ac ar :=
  ⟨er, kk, fun W => St B V P M Q W l l v, he, fun W hS hB => (h1 W hS).mono (by rintro e W' ⟨rfl, rfl⟩; exact ⟨rfl, hS, Keeps.refl _ _ _, hB⟩), fun W hS hB => (h2 W hS).mono (by rintro e W' ⟨rfl, rfl⟩; exact ⟨rfl, ⟨l, v, hS⟩, Keeps.refl _ _ _, hB⟩)⟩
theorem St.uniq (h : St B V P M Q W l r v) : l.Pairwise fun x y => x.id ≠ y.id := ids_pw h.pick.map.1
theorem add_step (id wt : Int) (hid : -9223372036854775808 ≤ id ∧ id ≤ 9223372036854775807) : Step B V P M Q l v 7 8 #[.pointer (some ⟨P, 0, none⟩), .int .i64 id, .int .i64 wt] #[.pointer (some ⟨Q, 0, none⟩), .int .i64 id, .int .i64 wt] := by
  by_cases hb : okAdd id wt
  · cases hx : findE l id with
    | some x =>
      refine Step.still _ 7 (.err 7) (fun W hS => add_clash hS.pick id wt hb x hx) (fun W hS => radd_clash hS.ref id wt hb ?_)
      exact ⟨x, (findE_some hx).1, (findE_some hx).2⟩
    | none =>
      by_cases hl : l.length < 100
      · refine ⟨.nilIface, 0, fun W => ∃ a bid sc ok, Best (fun _ => True) l bid sc ok ∧ St B V P M Q W (l ++ [⟨id, a, wt, sc, false⟩]) l v ∧ l.Pairwise fun x y => x.id ≠ y.id, .nil, fun W hS hB => ?_, fun W hM hB => ?_⟩
        · refine (add_ok hS.pick id wt hb hx hl).mono ?_
          rintro e W' ⟨a, bid, sc, ok, rfl, hbest, hp, hM, ha⟩
          obtain ⟨h1, h2⟩ := hS.pickStep hp hM (fun k hk => .inl hk) (fun e he => by
            rcases List.mem_append.1 he with he | he
            · exact .inl ⟨e, he, rfl⟩
            · rw [List.mem_singleton.1 he]; exact .inr ha) (by simp; omega)
          exact ⟨rfl, ⟨a, bid, sc, ok, hbest, h1, hS.uniq⟩, h2 hB, Nat.le_trans hB hM.size⟩
        · obtain ⟨a, bid, sc, ok, hbest, hS, hU⟩ := hM
          refine (radd_ok hS.ref id wt hb (findE_none hx) hl).mono ?_
          rintro e W' ⟨k, v', rfl, hL, hR, hM, hv⟩
          obtain ⟨_, hsc, _⟩ := best_lead hU hbest hL
          have hR' := hR a
          rw [← hsc] at hR'
          obtain ⟨h1, h2⟩ := hS.refStep hR' hM (fun k hk => hk) (fun g hg => by
            rcases hv with h | ⟨g', h, hge⟩
            · exact .inl (by rw [← h]; exact hg)
            · rw [h] at hg; obtain rfl := Option.some.inj hg; exact .inr hge) (by simp; omega)
          exact ⟨rfl, ⟨_, _, h1⟩, h2 hB, Nat.le_trans hB hM.size⟩
      · exact Step.still _ 4 (.err 4) (fun W hS => add_full hS.pick id wt hb hx (by omega) (by have := hS.len; omega)) (fun W hS => radd_full hS.ref id wt hb (findE_none hx) (by omega))
  · exact Step.still _ 1 (.err 1) (fun W hS => add_bad hS.pick id wt hid hb) (fun W hS => radd_bad hS.ref id wt hb)
theorem nth_of {l : List Ent} {id : Int} {x : Ent} (hx : findE l id = some x) : ∃ n : Nat, l[n]? = some x ∧ x.id = id := by
  obtain ⟨h1, h2⟩ := findE_some hx
  obtain ⟨n, hn, e⟩ := List.getElem_of_mem h1
  exact ⟨n, by rw [List.getElem?_eq_getElem hn, e], h2⟩
theorem drop_step (id : Int) (hid : -9223372036854775808 ≤ id ∧ id ≤ 9223372036854775807) : Step B V P M Q l v 9 10 #[.pointer (some ⟨P, 0, none⟩), .int .i64 id] #[.pointer (some ⟨Q, 0, none⟩), .int .i64 id] := by
  cases hx : findE l id with
  | none => exact Step.still _ 5 (.err 5) (fun W hS => drop_none hS.pick id hid hx) (fun W hS => rdrop_none hS.ref id hid (findE_none hx))
  | some x =>
    obtain ⟨n, hn, rfl⟩ := nth_of hx
    refine ⟨.nilIface, 0, fun W => St B V P M Q W (l.eraseIdx n) l v ∧ l.Pairwise fun x y => x.id ≠ y.id, .nil, fun W hS hB => ?_, fun W hM hB => ?_⟩
    · refine (drop_some hS.pick x.id hid x hx).mono ?_
      rintro e W' ⟨rfl, hp, hM⟩
      rw [filter_erase hS.uniq hn] at hp
      have hlen := hS.len
      obtain ⟨h1, h2⟩ := hS.pickStep hp hM (fun k hk => .inl hk) (fun e he => .inl ⟨e, List.mem_of_mem_eraseIdx he, rfl⟩) (by have := List.length_eraseIdx_le l n; omega)
      exact ⟨rfl, ⟨h1, hS.uniq⟩, h2 hB, Nat.le_trans hB hM.size⟩
    · obtain ⟨hS, hU⟩ := hM
      have hlen := hS.len
      refine (rdrop_some hS.ref x.id hid n (fun m y hm hy => idx_uniq hU hm hn hy) x hn rfl (by omega)).mono ?_
      rintro e W' ⟨v', rfl, hR, hM, hv⟩
      obtain ⟨h1, h2⟩ := hS.refStep hR hM (fun k hk => .inl hk) (fun g hg => by
        rcases hv with h | ⟨g', h, hge⟩
        · rw [h] at hg; cases hg
        · rw [h] at hg; obtain rfl := Option.some.inj hg; exact .inr hge) (by have := List.length_eraseIdx_le l n; omega)
      exact ⟨rfl, ⟨_, _, h1⟩, h2 hB, Nat.le_trans hB hM.size⟩
theorem want_step (id : Int) (yes : Bool) (hid : -9223372036854775808 ≤ id ∧ id ≤ 9223372036854775807) : Step B V P M Q l v 11 12 #[.pointer (some ⟨P, 0, none⟩), .int .i64 id, .bool yes] #[.pointer (some ⟨Q, 0, none⟩), .int .i64 id, .bool yes] := by
  cases hx : findE l id with
  | none => exact Step.still _ 5 (.err 5) (fun W hS => want_none hS.pick id yes hid hx) (fun W hS => rwant_none hS.ref id yes hid (findE_none hx))
  | some x =>
    obtain ⟨n, hn, rfl⟩ := nth_of hx
    refine ⟨.nilIface, 0, fun W => ∃ bid sc ok, Best (fun _ => True) l bid sc ok ∧ St B V P M Q W (l.set n (wantE ok sc yes x)) l v ∧ l.Pairwise fun x y => x.id ≠ y.id, .nil, fun W hS hB => ?_, fun W hM hB => ?_⟩
    · refine (want_some hS.pick x.id yes hid x hx).mono ?_
      rintro e W' ⟨rfl, bid, sc, ok, hbest, hp, hM⟩
      rw [upd_set hS.uniq hn] at hp
      have hlen := hS.len
      obtain ⟨h1, h2⟩ := hS.pickStep hp hM (fun k hk => .inr hk) (fun e he => by
        rcases List.mem_or_eq_of_mem_set he with he | rfl
        · exact .inl ⟨e, he, rfl⟩
        · exact .inl ⟨x, List.mem_of_getElem? hn, rfl⟩) (by rw [List.length_set]; exact hlen.1)
      exact ⟨rfl, ⟨bid, sc, ok, hbest, h1, hS.uniq⟩, h2 hB, Nat.le_trans hB hM.size⟩
    · obtain ⟨bid, sc, ok, hbest, hS, hU⟩ := hM
      have hlen := hS.len
      refine (rwant_some hS.ref x.id yes hid n (fun m y hm hy => idx_uniq hU hm hn hy) x hn rfl).mono ?_
      rintro e W' ⟨k, rfl, hL, hR, hM⟩
      obtain ⟨hok, hsc, _⟩ := best_lead hU hbest hL
      rw [← hsc, ← hok] at hR
      obtain ⟨h1, h2⟩ := hS.refStep hR hM (fun k hk => .inr hk) (fun g hg => .inl hg) (by rw [List.length_set]; exact hlen.2)
      exact ⟨rfl, ⟨_, _, h1⟩, h2 hB, Nat.le_trans hB hM.size⟩
theorem sent_step (id k : Int) (hid : -9223372036854775808 ≤ id ∧ id ≤ 9223372036854775807) : Step B V P M Q l v 13 14 #[.pointer (some ⟨P, 0, none⟩), .int .i64 id, .int .i64 k] #[.pointer (some ⟨Q, 0, none⟩), .int .i64 id, .int .i64 k] := by
  cases hx : findE l id with
  | none => exact Step.still _ 5 (.err 5) (fun W hS => sent_none hS.pick id k hid hx) (fun W hS => rsent_none hS.ref id k hid (findE_none hx))
  | some x =>
    obtain ⟨n, hn, rfl⟩ := nth_of hx
    by_cases hk : 0 ≤ k ∧ k ≤ 1000000
    · refine ⟨.nilIface, 0, fun W => St B V P M Q W (l.set n (sentE k x)) l v ∧ (l.Pairwise fun x y => x.id ≠ y.id) ∧ (1 ≤ x.wt ∧ x.wt ≤ 256) ∧ (0 ≤ x.sc ∧ x.sc ≤ 4611686018427387904), .nil, fun W hS hB => ?_, fun W hM hB => ?_⟩
      · refine (sent_some hS.pick x.id k hid x hx hk).mono ?_
        rintro e W' ⟨rfl, hp, hM⟩
        rw [upd_set hS.uniq hn] at hp
        have hlen := hS.len
        have hE := hS.pick.ents x (List.mem_of_getElem? hn)
        obtain ⟨h1, h2⟩ := hS.pickStep hp hM (fun k hk => .inr hk) (fun e he => by
          rcases List.mem_or_eq_of_mem_set he with he | rfl
          · exact .inl ⟨e, he, rfl⟩
          · exact .inl ⟨x, List.mem_of_getElem? hn, rfl⟩) (by rw [List.length_set]; exact hlen.1)
        exact ⟨rfl, ⟨h1, hS.uniq, hE.hw, hE.hs⟩, h2 hB, Nat.le_trans hB hM.size⟩
      · obtain ⟨hS, hU, hw, hs⟩ := hM
        have hlen := hS.len
        refine (rsent_some hS.ref x.id k hid n (fun m y hm hy => idx_uniq hU hm hn hy) x hn rfl hk hw hs).mono ?_
        rintro e W' ⟨rfl, hR, hM⟩
        obtain ⟨h1, h2⟩ := hS.refStep hR hM (fun k hk => .inr hk) (fun g hg => .inl hg) (by rw [List.length_set]; exact hlen.2)
        exact ⟨rfl, ⟨_, _, h1⟩, h2 hB, Nat.le_trans hB hM.size⟩
    · refine Step.still _ 1 (.err 1) (fun W hS => sent_bad hS.pick x.id k hid x hx (by omega)) (fun W hS => rsent_bad hS.ref x.id k hid n (fun m y hm hy => idx_uniq hS.uniq hm hn hy) x hn rfl (by omega))
end Go.Proofs.YtfgplghjgjnggaaDoor.PickS
