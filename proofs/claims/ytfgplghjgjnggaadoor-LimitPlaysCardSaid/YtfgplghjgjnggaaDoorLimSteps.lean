/-
  Limit and reference side by side: what each step does to both.
  Conditions: where both lie; the bounds.
-/
import Derived.Test.YtfgplghjgjnggaaDoorLimRefD
import Derived.Test.YtfgplghjgjnggaaDoorTold
namespace Go.Proofs.YtfgplghjgjnggaaDoor.LimS
open Go.RowKit MapsL ModL RowsK RowsM LimitC LimR
set_option linter.unusedSimpArgs false
set_option linter.unusedVariables false

theorem keys_pw {l : List Ent} (hk : Keys (encA l)) : l.Pairwise fun x y => x.key ≠ y.key := by
  have := hk.1
  unfold encA at this
  rw [List.pairwise_map] at this
  exact this.imp fun h e => h (by simp [e])
theorem isLimit_mod {w w' : World} {b ma ms : Nat} {rate burst : Int} {l : List Ent} (h : IsLimit w b ma ms rate burst l) {S : Nat → Prop} (hM : Mod S w w') (h1 : ¬ S b) (h2 : ¬ S ma) (h3 : ¬ S ms) (h4 : ∀ e ∈ l, ¬ S e.a) : IsLimit w' b ma ms rate burst l :=
  h.of_block fun k hk hor => hM.block k hk (by
    rcases hor with rfl | rfl | rfl | ⟨e, he, rfl⟩
    · exact h1
    · exact h2
    · exact h3
    · exact h4 e he)
theorem fine_of {w : World} {b ma ms : Nat} {rate burst : Int} {l : List Ent} (h : IsLimit w b ma ms rate burst l) (now : Int) : Fine burst now l := fun e he => by
  have hE := h.ents e he
  exact ⟨hE.hl.1, hE.hl.2, hE.ht.1, hE.ht.2.1, hE.ht.2.2⟩
/-- Both lie so, and apart; V is one more block that none of them is. -/
structure St (B V P MA MS Q : Nat) (rate burst : Int) (W : World) (l r : List Ent) (v : Value) : Prop where
  lim : IsLimit W P MA MS rate burst l
  ref : RefB W Q rate burst v r
  fo : ∀ g, v.ownBlock = some g → g ≠ P ∧ g ≠ MA ∧ g ≠ MS ∧ g ≠ V ∧ ∀ e ∈ l, e.a ≠ g
  fq : Q ≠ P ∧ Q ≠ MA ∧ Q ≠ MS ∧ Q ≠ V ∧ P ≠ V ∧ MA ≠ V ∧ MS ≠ V ∧ ∀ e ∈ l, e.a ≠ Q ∧ e.a ≠ V
  low : B ≤ P ∧ B ≤ MA ∧ B ≤ MS ∧ B ≤ Q ∧ ∀ e ∈ l, B ≤ e.a
  vlt : V < W.heap.size
  len : l.length ≤ 100 ∧ r.length ≤ 100
variable {B V P MA MS Q : Nat} {rate burst : Int} {W W' : World} {l r : List Ent} {v : Value}
theorem St.below (h : St B V P MA MS Q rate burst W l r v) (hB : Below W.heap.size W W') : St B V P MA MS Q rate burst W' l r v :=
  ⟨h.lim.below hB, h.ref.below hB, h.fo, h.fq, h.low, Nat.lt_of_lt_of_le h.vlt hB.size, h.len⟩
theorem St.uniq (h : St B V P MA MS Q rate burst W l r v) : l.Pairwise fun x y => x.key ≠ y.key := keys_pw h.lim.mapA.1
/-- What stays: V's cells; all that is below B. -/
def Keeps (B V : Nat) (W W' : World) : Prop := Below B W W' ∧ ∀ i, W'.cell? ⟨V, i, none⟩ = W.cell? ⟨V, i, none⟩
theorem Keeps.refl (B V : Nat) (W : World) : Keeps B V W W := ⟨Below.refl _ _, fun _ => rfl⟩
/-- The limit's step. -/
theorem St.limStep (h : St B V P MA MS Q rate burst W l r v) {l' : List Ent} (hp : IsLimit W' P MA MS rate burst l') {S : Nat → Prop} (hM : Mod S W W') (hS : ∀ k, S k → k = MA ∨ k = MS) (hl' : ∀ e ∈ l', (∃ y ∈ l, y.a = e.a) ∨ W.heap.size ≤ e.a) (hlen : l'.length ≤ 100) :
    St B V P MA MS Q rate burst W' l' r v ∧ (B ≤ W.heap.size → Keeps B V W W') := by
  have hQS : ¬ S Q := fun hs => by rcases hS Q hs with e | e; exact h.fq.2.1 e; exact h.fq.2.2.1 e
  have hVS : ¬ S V := fun hs => by rcases hS V hs with e | e; exact h.fq.2.2.2.2.2.1 e.symm; exact h.fq.2.2.2.2.2.2.1 e.symm
  have hgS : ∀ g, v.ownBlock = some g → ¬ S g := fun g hg hs => by rcases hS g hs with e | e; exact (h.fo g hg).2.1 e; exact (h.fo g hg).2.2.1 e
  have hql := h.ref.lt
  refine ⟨⟨hp, h.ref.mod hM hQS hgS, fun g hg => ⟨(h.fo g hg).1, (h.fo g hg).2.1, (h.fo g hg).2.2.1, (h.fo g hg).2.2.2.1, fun e he => ?_⟩, ⟨h.fq.1, h.fq.2.1, h.fq.2.2.1, h.fq.2.2.2.1, h.fq.2.2.2.2.1, h.fq.2.2.2.2.2.1, h.fq.2.2.2.2.2.2.1, fun e he => ?_⟩, ⟨h.low.1, h.low.2.1, h.low.2.2.1, h.low.2.2.2.1, fun e he => ?_⟩, Nat.lt_of_lt_of_le h.vlt hM.size, hlen, h.len.2⟩, fun hB => ⟨hM.toBelow hB (fun k hk hs => ?_), fun i => hM.cell (p := ⟨V, i, none⟩) h.vlt hVS⟩⟩
  · rcases hl' e he with ⟨y, hy, e2⟩ | h2
    · rw [← e2]; exact (h.fo g hg).2.2.2.2 y hy
    · have := (h.ref.own.lt g hg).2; omega
  · rcases hl' e he with ⟨y, hy, e2⟩ | h2
    · rw [← e2]; exact h.fq.2.2.2.2.2.2.2 y hy
    · have := h.vlt; omega
  · rcases hl' e he with ⟨y, hy, e2⟩ | h2
    · rw [← e2]; exact h.low.2.2.2.2 y hy
    · have := h.low.2.2.2.1; omega
  · rcases hS k hs with e | e
    · have := h.low.2.1; omega
    · have := h.low.2.2.1; omega
/-- The reference's step. -/
theorem St.refStep (h : St B V P MA MS Q rate burst W l r v) {r' : List Ent} {v' : Value} (hr : RefB W' Q rate burst v' r') {S : Nat → Prop} (hM : Mod S W W') (hS : ∀ k, S k → k = Q ∨ v.ownBlock = some k) (hv' : ∀ g, v'.ownBlock = some g → v.ownBlock = some g ∨ W.heap.size ≤ g) (hlen : r'.length ≤ 100) :
    St B V P MA MS Q rate burst W' l r' v' ∧ (B ≤ W.heap.size → Keeps B V W W') := by
  have hne : ∀ X, X ≠ Q → (∀ g, v.ownBlock = some g → g ≠ X) → ¬ S X := fun X h1 h2 hs => by
    rcases hS X hs with e | e
    · exact h1 e
    · exact h2 X e rfl
  have hPS := hne P (Ne.symm h.fq.1) (fun g hg => (h.fo g hg).1)
  have hAS := hne MA (Ne.symm h.fq.2.1) (fun g hg => (h.fo g hg).2.1)
  have hMS := hne MS (Ne.symm h.fq.2.2.1) (fun g hg => (h.fo g hg).2.2.1)
  have hVS := hne V (Ne.symm h.fq.2.2.2.1) (fun g hg => (h.fo g hg).2.2.2.1)
  have hES : ∀ e ∈ l, ¬ S e.a := fun e he => hne e.a (h.fq.2.2.2.2.2.2.2 e he).1 (fun g hg => Ne.symm ((h.fo g hg).2.2.2.2 e he))
  refine ⟨⟨isLimit_mod h.lim hM hPS hAS hMS hES, hr, fun g hg => ?_, h.fq, h.low, Nat.lt_of_lt_of_le h.vlt hM.size, h.len.1, hlen⟩, fun hB => ⟨hM.toBelow hB (fun k hk hs => ?_), fun i => hM.cell (p := ⟨V, i, none⟩) h.vlt hVS⟩⟩
  · rcases hv' g hg with h1 | h1
    · exact h.fo g h1
    · have hl := h.lim.lt
      refine ⟨by omega, by omega, by omega, by have := h.vlt; omega, fun e he => ?_⟩
      have := (h.lim.ents e he).lt
      omega
  · rcases hS k hs with e | e
    · have := h.low.2.2.2.1; omega
    · have h1 := (h.ref.own.lt k e).1
      have := h.low.2.2.2.1
      omega
/-- What a step does to both, and what both say: the reference first. -/
def Step (B V P MA MS Q : Nat) (rate burst : Int) (l : List Ent) (v : Value) (fr fc : FuncId) (ar ac : Array Value) (rr rc : Value) : Prop :=
  ∃ (Mid : World → Prop),
    (∀ W, St B V P MA MS Q rate burst W l l v → B ≤ W.heap.size → Calls Tryd.prog fr ar W fun e W' => e = .returned rr ∧ Mid W' ∧ Keeps B V W W' ∧ B ≤ W'.heap.size) ∧
    (∀ W, Mid W → B ≤ W.heap.size → Calls Tryd.prog fc ac W fun e W' => e = .returned rc ∧ (∃ l' v', St B V P MA MS Q rate burst W' l' l' v') ∧ Keeps B V W W' ∧ B ≤ W'.heap.size)
theorem Step.still {fc fr : FuncId} {ac ar : Array Value} {rr rc : Value}
    (h1 : ∀ W, St B V P MA MS Q rate burst W l l v → Calls Tryd.prog fr ar W fun e W' => e = .returned rr ∧ W = W') (h2 : ∀ W, St B V P MA MS Q rate burst W l l v → Calls Tryd.prog fc ac W fun e W' => e = .returned rc ∧ W = W') : Step B V P MA MS Q rate burst l v fr fc ar ac rr rc :=
  ⟨fun W => St B V P MA MS Q rate burst W l l v, fun W hS hB => (h1 W hS).mono (by rintro e W' ⟨rfl, rfl⟩; exact ⟨rfl, hS, Keeps.refl _ _ _, hB⟩), fun W hS hB => (h2 W hS).mono (by rintro e W' ⟨rfl, rfl⟩; exact ⟨rfl, ⟨l, v, hS⟩, Keeps.refl _ _ _, hB⟩)⟩
theorem str_size {k : List UInt8} (hk : k.length ≤ 20) : (str k).size ≤ maxLen := by
  have : (str k).size = k.length := by simp [str, ByteArray.size]
  unfold maxLen; omega
theorem askL_a (l : List Ent) (k : List UInt8) (now n : Int) (a : Nat) : ∀ e ∈ askL rate burst l k now n a, (∃ y ∈ l, y.a = e.a) ∨ e.a = a := fun e he => by
  rcases upsert_mem he with rfl | he
  · exact .inr rfl
  · exact .inl ⟨e, he, rfl⟩
theorem askL_len (l : List Ent) (k : List UInt8) (now n : Int) (a : Nat) : (askL rate burst l k now n a).length = if (findK l k).isSome then l.length else l.length + 1 := upsert_len l _
theorem ask_step (k : List UInt8) (now n : Int) (hk : k.length ≤ 20) (hr : 1 ≤ rate ∧ rate ≤ 1000000) (hb : 1 ≤ burst ∧ burst ≤ 1000000) : ∃ (ok : Bool) (kk : Int) (er : Value), ToldC.ErrIs er kk ∧
    Step B V P MA MS Q rate burst l v 19 20 #[.pointer (some ⟨Q, 0, none⟩), .string (str k), .int .i64 now, .int .i64 n] #[.pointer (some ⟨P, 0, none⟩), .string (str k), .int .i64 now, .int .i64 n] (.tuple #[.bool ok, .int .i64 kk]) (.tuple #[.bool ok, er]) := by
  have hs := str_size hk
  by_cases hz : checkE burst l k now n = 0
  · by_cases hx : (findK l k).isSome ∨ l.length < 100
    · refine ⟨decide (n ≤ leftF rate burst l k now), 0, .nilIface, .nil, fun W => ∃ v', (∀ a, RefB W Q rate burst v' (askL rate burst l k now n a)) ∧ St B V P MA MS Q rate burst W l (askL rate burst l k now n 0) v', fun W hS hB => ?_, fun W hM hB => ?_⟩
      · have hlen := hS.len
        refine (rask_ok hS.ref k now n hr hb (fine_of hS.lim now) hS.uniq hz hx (by omega)).mono ?_
        rintro e W' ⟨v', rfl, hR, hM, hv⟩
        obtain ⟨h1, h2⟩ := hS.refStep (hR 0) hM (fun k hk => hk) (fun g hg => by
          rcases hv with h | ⟨g', h, hge⟩
          · exact .inl (by rw [← h]; exact hg)
          · rw [h] at hg; obtain rfl := Option.some.inj hg; exact .inr hge) (by rw [askL_len]; rcases hx with h | h <;> split <;> simp_all <;> omega)
        exact ⟨rfl, ⟨v', hR, h1⟩, h2 hB, Nat.le_trans hB hM.size⟩
      · obtain ⟨v', hR, hS⟩ := hM
        have hlen := hS.len
        have h := Ask_ok hS.lim (str k) hs now n (by rw [str_list]; exact hz) (by rw [str_list]; exact hx) (by omega)
        rw [str_list] at h
        refine h.mono ?_
        rintro e W' ⟨rfl, a, ha, hp, hM⟩
        obtain ⟨h1, h2⟩ := hS.limStep hp hM (fun k hk => hk) (fun e he => by
          rcases askL_a l k now n a e he with h | h
          · exact .inl h
          · exact .inr (by rw [h]; exact ha)) (by rw [askL_len]; rcases hx with h | h <;> split <;> simp_all <;> omega)
        have hR' := (hR a).mod hM (fun hs => by rcases hs with e | e; exact hS.fq.2.1 e; exact hS.fq.2.2.1 e) (fun g hg hs => by rcases hs with e | e; exact (hS.fo g hg).2.1 e; exact (hS.fo g hg).2.2.1 e)
        refine ⟨rfl, ⟨_, v', ⟨h1.lim, hR', h1.fo, h1.fq, h1.low, h1.vlt, h1.len.1, h1.len.1⟩⟩, h2 hB, Nat.le_trans hB hM.size⟩
    · have hx1 : findK l k = none := by cases h : findK l k with | none => rfl | some x => exact absurd (.inl (by rw [h]; rfl)) hx
      have hx2 : 100 ≤ l.length := by rcases Nat.lt_or_ge l.length 100 with h | h; exact absurd (.inr h) hx; exact h
      refine ⟨false, 4, .iface 70 (.int .i64 4), .err 4, Step.still (fun W hS => rask_full hS.ref k now n hz hx1 hx2) (fun W hS => Ask_full hS.lim (str k) hs now n (by rw [str_list]; exact hz) (by rw [str_list]; exact hx1) hx2 (by have := hS.len; omega))⟩
  · refine ⟨false, checkE burst l k now n, .iface 70 (.int .i64 (checkE burst l k now n)), .err _, Step.still (fun W hS => rask_bad hS.ref k now n hz) (fun W hS => ?_)⟩
    have h := Ask_bad hS.lim (str k) hs now n (by rw [str_list]; exact hz)
    rw [str_list] at h
    exact h
theorem seeL_a (l : List Ent) (k : List UInt8) (now : Int) : ∀ e ∈ seeL l k now, ∃ y ∈ l, y.a = e.a := fun e he => by
  unfold seeL at he
  cases hfk : findK l k with
  | none => rw [hfk] at he; exact ⟨e, he, rfl⟩
  | some x =>
    rw [hfk] at he
    rcases upsert_mem he with rfl | he
    · exact ⟨x, (findK_some hfk).1, rfl⟩
    · exact ⟨e, he, rfl⟩
theorem seeL_len (l : List Ent) (k : List UInt8) (now : Int) : (seeL l k now).length = l.length := by
  unfold seeL
  cases hfk : findK l k with
  | none => rfl
  | some x =>
    have hk := (findK_some hfk).2
    have h := upsert_len l { x with seen := now }
    have e : findK l ({ x with seen := now } : Ent).key = some x := by show findK l x.key = some x; rw [hk]; exact hfk
    rw [e] at h
    exact h
/-- The reference looks; the limit looks, by whatever it is asked. -/
theorem see_step (k : List UInt8) (now n : Int) (hr : 1 ≤ rate ∧ rate ≤ 1000000) (hb : 1 ≤ burst ∧ burst ≤ 1000000) {fc : FuncId} {ac : Array Value} {rc : Value} (hz : checkE burst l k now n = 0)
    (h2 : ∀ W, IsLimit W P MA MS rate burst l → l.length ≤ 1000000 → Calls Tryd.prog fc ac W fun e W' => e = .returned rc ∧ IsLimit W' P MA MS rate burst (seeL l k now) ∧ Mod (fun k => k = MS) W W') :
    Step B V P MA MS Q rate burst l v 21 fc #[.pointer (some ⟨Q, 0, none⟩), .string (str k), .int .i64 now, .int .i64 n] ac (.tuple #[.int .i64 (leftF rate burst l k now), .int .i64 (waitF rate (leftF rate burst l k now) n), .int .i64 0]) rc := by
  refine ⟨fun W => St B V P MA MS Q rate burst W l (seeL l k now) v, fun W hS hB => ?_, fun W hS hB => ?_⟩
  · refine (rLeft_ok hS.ref k now n hr hb (fine_of hS.lim now) hS.uniq hz).mono ?_
    rintro e W' ⟨rfl, hR, hM⟩
    obtain ⟨h1, h2⟩ := hS.refStep hR hM (fun k hk => .inr hk) (fun g hg => .inl hg) (by rw [seeL_len]; exact hS.len.2)
    exact ⟨rfl, h1, h2 hB, Nat.le_trans hB hM.size⟩
  · refine (h2 W hS.lim (by have := hS.len; omega)).mono ?_
    rintro e W' ⟨rfl, hp, hM⟩
    obtain ⟨h1, h2⟩ := hS.limStep hp hM (fun k hk => .inr hk) (fun e he => .inl (seeL_a l k now e he)) (by rw [seeL_len]; exact hS.len.1)
    exact ⟨rfl, ⟨_, v, h1⟩, h2 hB, Nat.le_trans hB hM.size⟩
theorem left_step (k : List UInt8) (now : Int) (hk : k.length ≤ 20) (hr : 1 ≤ rate ∧ rate ≤ 1000000) (hb : 1 ≤ burst ∧ burst ≤ 1000000) : ∃ (a b kk : Int) (er : Value), ToldC.ErrIs er kk ∧
    Step B V P MA MS Q rate burst l v 21 22 #[.pointer (some ⟨Q, 0, none⟩), .string (str k), .int .i64 now, .int .i64 1] #[.pointer (some ⟨P, 0, none⟩), .string (str k), .int .i64 now] (.tuple #[.int .i64 a, .int .i64 b, .int .i64 kk]) (.tuple #[.int .i64 a, er]) := by
  have hs := str_size hk
  by_cases hz : checkE burst l k now 1 = 0
  · refine ⟨_, _, 0, .nilIface, .nil, see_step k now 1 hr hb hz (fun W hL hlen => ?_)⟩
    have h := Left_any hL (str k) hs now hlen
    rw [str_list] at h
    refine h.mono ?_
    rintro e W' (⟨h1, _⟩ | ⟨_, h2, h3, h4⟩)
    · exact absurd hz h1
    · exact ⟨h2, h3, h4⟩
  · refine ⟨0, 0, checkE burst l k now 1, .iface 70 (.int .i64 (checkE burst l k now 1)), .err _, Step.still (fun W hS => rLeft_bad hS.ref k now 1 hz) (fun W hS => ?_)⟩
    have h := Left_any hS.lim (str k) hs now (by have := hS.len; omega)
    rw [str_list] at h
    refine h.mono ?_
    rintro e W' (⟨_, h2, h3⟩ | ⟨h1, _⟩)
    · exact ⟨h2, h3⟩
    · exact absurd h1 hz
theorem wait_step (k : List UInt8) (now n : Int) (hk : k.length ≤ 20) (hr : 1 ≤ rate ∧ rate ≤ 1000000) (hb : 1 ≤ burst ∧ burst ≤ 1000000) : ∃ (a b kk : Int) (er : Value), ToldC.ErrIs er kk ∧
    Step B V P MA MS Q rate burst l v 21 23 #[.pointer (some ⟨Q, 0, none⟩), .string (str k), .int .i64 now, .int .i64 n] #[.pointer (some ⟨P, 0, none⟩), .string (str k), .int .i64 now, .int .i64 n] (.tuple #[.int .i64 a, .int .i64 b, .int .i64 kk]) (.tuple #[.int .i64 b, er]) := by
  have hs := str_size hk
  by_cases hz : checkE burst l k now n = 0
  · refine ⟨_, _, 0, .nilIface, .nil, see_step k now n hr hb hz (fun W hL hlen => ?_)⟩
    have h := Wait_any hL (str k) hs now n hlen
    rw [str_list] at h
    refine h.mono ?_
    rintro e W' (⟨h1, _⟩ | ⟨_, h2, h3, h4⟩)
    · exact absurd hz h1
    · exact ⟨h2, h3, h4⟩
  · refine ⟨0, 0, checkE burst l k now n, .iface 70 (.int .i64 (checkE burst l k now n)), .err _, Step.still (fun W hS => rLeft_bad hS.ref k now n hz) (fun W hS => ?_)⟩
    have h := Wait_any hS.lim (str k) hs now n (by have := hS.len; omega)
    rw [str_list] at h
    refine h.mono ?_
    rintro e W' (⟨_, h2, h3⟩ | ⟨h1, _⟩)
    · exact ⟨h2, h3⟩
    · exact absurd h1 hz
theorem digits_any : ∀ c : Nat, ∀ n : Nat, n < 10 ^ (c + 1) → c ≤ 5 → ∀ w : World, Calls Tryd.prog 31 #[.int .i64 n] w fun e w' => (∃ k : List UInt8, e = .returned (.string (str k)) ∧ k.length ≤ c + 1) ∧ w = w' := by
  intro c
  induction c with
  | zero =>
    intro n hn _ w
    have h1 : (n : Int) < 10 := by omega
    have h2 : (n : Int) + 1 ≤ 10 := by omega
    go_enter Tryd.func31, Tryd.ntmps31
    go_wp2
    go_ret
    refine ⟨⟨((⟨#[48, 49, 50, 51, 52, 53, 54, 55, 56, 57]⟩ : ByteArray).extract n (n + 1)).data.toList, by rw [str_of]; rfl, ?_⟩, rfl⟩
    have := ByteArray.size_extract (a := (⟨#[48, 49, 50, 51, 52, 53, 54, 55, 56, 57]⟩ : ByteArray)) (b := n) (e := n + 1)
    rw [Array.length_toList]
    show ByteArray.size _ ≤ _
    rw [this]; omega
  | succ c ih =>
    intro n hn hc w
    by_cases h : n < 10
    · have := Nat.one_le_pow c 10 (by decide)
      have h3 : n < 10 ^ (c + 1) := by rw [Nat.pow_succ]; omega
      exact (ih n h3 (by omega) w).mono fun e w' hh => by
        obtain ⟨⟨k, h1, h2⟩, h4⟩ := hh
        exact ⟨⟨k, h1, by omega⟩, h4⟩
    · have hI := ih (n / 10) (by rw [Nat.pow_succ] at hn; omega) (by omega) w
      have hcst : ((n / 10 : Nat) : Int) = (n : Int) / 10 := by omega
      rw [hcst] at hI
      have HI := Lib.hid hI
      have hnb : (n : Int) < 10000000 := by
        have := Nat.pow_le_pow_right (n := 10) (by decide) (show c + 1 + 1 ≤ 7 by omega)
        omega
      have h1 : ¬ (n : Int) < 10 := by omega
      have h3 : (n : Int) % 10 + 1 ≤ 10 := by omega
      have h4 : 0 ≤ (n : Int) % 10 := by omega
      have h5 : 0 ≤ (n : Int) % 10 + 1 := by omega
      obtain ⟨X, hX⟩ : ∃ X, (⟨#[48, 49, 50, 51, 52, 53, 54, 55, 56, 57]⟩ : ByteArray).extract (n % 10) (n % 10 + 1) = X := ⟨_, rfl⟩
      have hXs : X.size ≤ 1 := by rw [← hX, ByteArray.size_extract]; omega
      clear hI hcst ih
      go_enter Tryd.func31, Tryd.ntmps31
      go_wp2_with (go_at_call 31; (with_reducible refine HI.out.mono ?_); rintro e w1 ⟨⟨k, rfl, hk⟩, rfl⟩; have hks : (str k).size = k.length := (by simp [str, ByteArray.size]); have hns : ¬ 9223372036854775807 < (str k).size + X.size := (by omega))
      go_ret
      refine ⟨⟨(str k ++ X).data.toList, by rw [str_of]; rfl, ?_⟩, rfl⟩
      rw [Array.length_toList]
      show ByteArray.size _ ≤ _
      rw [ByteArray.size_append]; omega
theorem key_any (n : Int) (hn : -9223372036854775808 ≤ n ∧ n ≤ 9223372036854775807) (w : World) : Calls Tryd.prog 18 #[.int .i64 n] w fun e w' => (∃ k : List UInt8, e = .returned (.string (str k)) ∧ k.length ≤ 20) ∧ w = w' := by
  obtain ⟨hn1, hn2⟩ := hn
  have HD : ∀ m : Int, 0 ≤ m → m < 120 → Calls Tryd.prog 31 #[.int .i64 m] w fun e w' => (∃ k : List UInt8, e = .returned (.string (str k)) ∧ k.length ≤ 3) ∧ w = w' := fun m h0 h1 => by
    have := digits_any 2 m.toNat (by omega) (by omega) w
    rwa [show ((m.toNat : Nat) : Int) = m by omega] at this
  by_cases h : n < 0
  · have HD0 := Lib.hid (HD 0 (by omega) (by omega))
    clear HD
    go_enter Tryd.func18, Tryd.ntmps18
    go_wp2_with (go_at_call 31; (with_reducible refine HD0.out.mono ?_); rintro e w1 ⟨⟨k, rfl, hk⟩, rfl⟩; have hks : (str k).size = k.length := (by simp [str, ByteArray.size]); have hns : ¬ 9223372036854775807 < 1 + (str k).size := (by omega))
    go_ret
    refine ⟨⟨((⟨#[107]⟩ : ByteArray) ++ str k).data.toList, by rw [str_of]; rfl, ?_⟩, rfl⟩
    rw [Array.length_toList]
    show ByteArray.size _ ≤ _
    rw [ByteArray.size_append, hks]
    show 1 + k.length ≤ 20
    omega
  · have HD0 := Lib.hid (HD (n % 120) (by omega) (by omega))
    have hm0 : 0 ≤ n := by omega
    clear HD
    go_enter Tryd.func18, Tryd.ntmps18
    go_wp2_with (go_at_call 31; (with_reducible refine HD0.out.mono ?_); rintro e w1 ⟨⟨k, rfl, hk⟩, rfl⟩; have hks : (str k).size = k.length := (by simp [str, ByteArray.size]); have hns : ¬ 9223372036854775807 < 1 + (str k).size := (by omega))
    go_ret
    refine ⟨⟨((⟨#[107]⟩ : ByteArray) ++ str k).data.toList, by rw [str_of]; rfl, ?_⟩, rfl⟩
    rw [Array.length_toList]
    show ByteArray.size _ ≤ _
    rw [ByteArray.size_append, hks]
    show 1 + k.length ≤ 20
    omega
end Go.Proofs.YtfgplghjgjnggaaDoor.LimS
