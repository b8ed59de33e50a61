/-
  The reference's pool: Take.
  Conditions: where its blocks lie.
-/
import Derived.Test.YtcdhjbeeehjpiaaDoorPoolRefB
import Derived.Test.YtcdhjbeeehjpiaaDoorTokRef
import Derived.Deep.RegionHeld3
namespace Go.Proofs.YtcdhjbeeehjpiaaDoor.PoolR
open Go.RowKit MapsL ModL RowsK RowsM LineC
set_option linter.unusedSimpArgs false
set_option linter.unusedVariables false

/-- k is the place of one that p takes, and none that p takes is ahead of it; -1: p takes none. -/
def LeadG (p : RL → Bool) (ah : RL → RL → Prop) (l : List RL) (k : Int) : Prop := (k = -1 ∧ ∀ e ∈ l, p e = false) ∨ ∃ (n : Nat) (x : RL), k = n ∧ l[n]? = some x ∧ p x = true ∧ ∀ y ∈ l, p y = true → ¬ ah y x
theorem LeadG.skip {p : RL → Bool} {ah : RL → RL → Prop} {l : List RL} {k : Int} {x : RL} (h : LeadG p ah l k) (hx : p x = false ∨ ∃ (n : Nat) (y : RL), k = n ∧ l[n]? = some y ∧ ¬ ah x y) : LeadG p ah (l ++ [x]) k := by
  rcases h with ⟨h1, h2⟩ | ⟨n, y, h1, h2, h3, h4⟩
  · rcases hx with hx | ⟨n, y, e, _⟩
    · refine .inl ⟨h1, fun e he => ?_⟩
      rcases List.mem_append.1 he with he | he
      · exact h2 e he
      · obtain rfl := List.mem_singleton.1 he; exact hx
    · omega
  · have hlt : n < l.length := (List.getElem?_eq_some_iff.1 h2).1
    refine .inr ⟨n, y, h1, by rw [List.getElem?_append_left hlt]; exact h2, h3, fun z hz hzw => ?_⟩
    rcases List.mem_append.1 hz with hz | hz
    · exact h4 z hz hzw
    · obtain rfl := List.mem_singleton.1 hz
      rcases hx with hx | ⟨n2, y2, e2, e3, e4⟩
      · rw [hx] at hzw; cases hzw
      · obtain rfl : n = n2 := by omega
        rw [h2] at e3
        obtain rfl := Option.some.inj e3
        exact e4
theorem LeadG.take {p : RL → Bool} {ah : RL → RL → Prop} (htr : ∀ a b c, ah a b → ah b c → ah a c) (hir : ∀ a, ¬ ah a a) {l : List RL} {k : Int} {x : RL} (h : LeadG p ah l k) (hw : p x = true) (hx : k = -1 ∨ ∃ (n : Nat) (y : RL), k = n ∧ l[n]? = some y ∧ ah x y) : LeadG p ah (l ++ [x]) l.length := by
  refine .inr ⟨l.length, x, rfl, by simp, hw, fun z hz hzw => ?_⟩
  rcases List.mem_append.1 hz with hz | hz
  · rcases h with ⟨h1, h2⟩ | ⟨n, y, h1, h2, h3, h4⟩
    · rw [h2 z hz] at hzw; cases hzw
    · rcases hx with hx | ⟨n2, y2, e2, e3, e4⟩
      · omega
      · obtain rfl : n = n2 := by omega
        rw [h2] at e3
        obtain rfl := Option.some.inj e3
        exact fun ha => h4 z hz hzw (htr _ _ _ ha e4)
  · obtain rfl := List.mem_singleton.1 hz
    exact hir _
def bestP (t : ByteArray) (x : RL) : Bool := !x.busy && (x.to.toList == t.toList)
def oldP (x : RL) : Bool := !x.busy
def ahB (x y : RL) : Prop := y.turn < x.turn
def ahO (x y : RL) : Prop := x.turn < y.turn
theorem ahB_tr {a b c : RL} (h : ahB a b) (k : ahB b c) : ahB a c := by unfold ahB at *; omega
theorem ahO_tr {a b c : RL} (h : ahO a b) (k : ahO b c) : ahO a c := by unfold ahO at *; omega
theorem ahB_ir (a : RL) : ¬ ahB a a := by unfold ahB; omega
theorem ahO_ir (a : RL) : ¬ ahO a a := by unfold ahO; omega
theorem takeB {p : RL → Bool} {l : List RL} {k : Int} {x : RL} (h : LeadG p ahB l k) (hw : p x = true) (hx : k = -1 ∨ ∃ (n : Nat) (y : RL), k = n ∧ l[n]? = some y ∧ ahB x y) : LeadG p ahB (l ++ [x]) l.length := LeadG.take (ah := ahB) (fun _ _ _ h k => ahB_tr h k) ahB_ir h hw hx
theorem takeO {p : RL → Bool} {l : List RL} {k : Int} {x : RL} (h : LeadG p ahO l k) (hw : p x = true) (hx : k = -1 ∨ ∃ (n : Nat) (y : RL), k = n ∧ l[n]? = some y ∧ ahO x y) : LeadG p ahO (l ++ [x]) l.length := LeadG.take (ah := ahO) (fun _ _ _ h k => ahO_tr h k) ahO_ir h hw hx
/-- A new link put behind the row. -/
theorem app_new {w : World} {q : Nat} {many last now turn : Int} {v : Value} {l : List RL} (h : RefO w q many last now turn v l) (t : ByteArray) (hl : l.length ≤ 1000) : ∃ a n c a' n' c' W3, v = .slice a n c ∧ q < w.heap.size ∧ w.cell? ⟨q, 1, none⟩ = some (.int .i64 last) ∧ w.cell? ⟨q, 4, none⟩ = some (.slice a n c) ∧
    (Builtin.append_ #[41, 41] 41 #[.slice a n c, .slice (some ⟨w.heap.size, 0, none⟩) 1 1]).run Tryd.prog (w.drew.alloc (.cells #[.int .i64 last, .string t, .bool true, .int .i64 0, .int .i64 0] 53)) = .ok (.slice a' n' c') W3 ∧ W3.cell? ⟨q, 4, none⟩ = some (.slice a n c) ∧ W3.frozen? ⟨q, 4, none⟩ = false ∧
    RefO (W3.setCell ⟨q, 4, none⟩ (.slice a' n' c')) q many last now turn (.slice a' n' c') (l ++ [⟨last, t, true, 0, 0⟩]) ∧ NearR w v (.slice a' n' c') ∧ Mod (RefS q v) w (W3.setCell ⟨q, 4, none⟩ (.slice a' n' c')) := by
  have h3 : RefO (w.drew.alloc (.cells #[.int .i64 last, .string t, .bool true, .int .i64 0, .int .i64 0] 53)) q many last now turn v l := h.below (((Below.refl _ _).drew).alloc (Nat.le_refl _) _)
  have hlit := RowsK.Own.lit (E := encR) (e := 53) (b := w.heap.size) w.drew #[.int .i64 last, .string t, .bool true, .int .i64 0, .int .i64 0] [⟨last, t, true, 0, 0⟩] (Nat.le_refl _) (by simp) rfl
  obtain ⟨v', W3, hr, ho, hg, hwh⟩ := run_append_where elemR 41 (q + 1) h3.own _ _ hlit.at_ (by simp; omega) (by have := h3.lt; omega)
  obtain ⟨a, n, c, rfl⟩ := own_form h.own
  obtain ⟨a', n', c', rfl⟩ := own_form ho
  have hb : W3.heap[q]? = (w.drew.alloc (.cells #[.int .i64 last, .string t, .bool true, .int .i64 0, .int .i64 0] 53)).heap[q]? := hg.block q h3.lt (fun e => by have := (h3.own.lt q e.symm).1; omega)
  refine ⟨a, n, c, a', n', c', W3, rfl, h.lt, h.c1, h.c4, hr, (World.cell?_of_block (a := ⟨q, 4, none⟩) hb).trans h3.c4, (World.frozen?_of_block (a := ⟨q, 4, none⟩) hb).trans (h3.thaw 4), h3.row hb ho, ?_, ?_⟩
  · rcases hwh with e | e
    · exact .inl e
    · refine .inr fun k hk => ?_
      rw [e] at hk
      have := Option.some.inj hk
      simp at this
      omega
  · exact ((((Mod.refl (RefS q (.slice a n c)) w).drew.alloc _).grown hg (fun k hk _ => .inr hk)).setCell (p := ⟨q, 4, none⟩) (fun _ => .inl rfl) _)
theorem rtake_bad {w : World} {q : Nat} (t : ByteArray) (hs : t.size ≤ maxLen) (ht : tokL t.data.toList = false) :
    Calls Tryd.prog 15 #[.pointer (some ⟨q, 0, none⟩), .string t] w fun e w' => e = .returned (.tuple #[.int .i64 0, .bool false, .int .i64 2]) ∧ w = w' := by
  have HT := Lib.hid (rtoken_any t hs)
  rw [ht] at HT
  go_enter Tryd.func15, Tryd.ntmps15
  go_wp2_with (go_at_call 33; (with_reducible refine (HT.out _).mono ?_); rintro e w1 ⟨rfl, rfl⟩)
  go_ret3
  exact ⟨rfl, rfl⟩
/-- What the reference's Take does. -/
def RTakeP (w : World) (q : Nat) (many last now turn : Int) (v : Value) (l : List RL) (t : ByteArray) (e : Ending) (w' : World) : Prop :=
  ∃ v', Mod (RefS q v) w w' ∧ NearR w v v' ∧
   ((∃ (n : Nat) (x : RL), LeadG (bestP t) ahB l n ∧ l[n]? = some x ∧ e = .returned (.tuple #[.int .i64 x.id, .bool false, .int .i64 0]) ∧ RefO w' q many last now turn v' (l.set n ⟨x.id, x.to, true, x.at_, x.turn⟩)) ∨
    (LeadG (bestP t) ahB l (-1) ∧ ((many ≤ l.length ∧ LeadG oldP ahO l (-1) ∧ e = .returned (.tuple #[.int .i64 0, .bool false, .int .i64 4]) ∧ RefO w' q many last now turn v' l) ∨
      (e = .returned (.tuple #[.int .i64 (last + 1), .bool true, .int .i64 0]) ∧ ((many ≤ l.length ∧ ∃ n : Nat, n < l.length ∧ LeadG oldP ahO l n ∧ RefO w' q many (last + 1) now turn v' ((l.take n ++ l.drop (n + 1)) ++ [⟨last + 1, t, true, 0, 0⟩])) ∨
        (¬ many ≤ l.length ∧ RefO w' q many (last + 1) now turn v' (l ++ [⟨last + 1, t, true, 0, 0⟩])))))))
/-- Between two rounds. -/
def RTakeI (t : ByteArray) (l : List RL) (i : Nat) (bk ok : Int) : Prop := LeadG (bestP t) ahB (l.take i) bk ∧ LeadG oldP ahO (l.take i) ok
/-- What a round reads, in a world. -/
def Rds (W : World) (q g s L cap : Nat) (a : Option Addr) (xt : ByteArray) (xb : Bool) (xu : Int) : Prop := W.cell? ⟨q, 4, none⟩ = some (.slice (some ⟨g, 0, none⟩) L cap) ∧ W.cell? ⟨s, 1, none⟩ = some (.string xt) ∧ W.cell? ⟨s, 2, none⟩ = some (.bool xb) ∧ W.cell? ⟨s, 4, none⟩ = some (.int .i64 xu)
theorem near2 {w w4 w6 : World} {v v5 v7 : Value} (h5 : v5.ownBlock = none ∨ ∃ g, v5.ownBlock = some g ∧ w4.heap.size ≤ g) (hs : w.heap.size ≤ w4.heap.size) (h7 : NearR w6 v5 v7) (h6 : w.heap.size ≤ w6.heap.size) : NearR w v v7 := .inr fun k hk => by
  rcases h7 with h | h
  · rw [h] at hk
    rcases h5 with e | ⟨g, e, hg⟩
    · rw [e] at hk; cases hk
    · rw [e] at hk; have := Option.some.inj hk; omega
  · have := h k hk; omega
theorem near3 {w w6 : World} {v v7 : Value} (h6 : w.heap.size ≤ w6.heap.size) (h7 : NearR w6 v v7) : NearR w v v7 := by
  rcases h7 with h | h
  · exact .inl h
  · exact .inr fun k hk => by have := h k hk; omega
theorem below_dq {B : Nat} {w W : World} (h : Below B w W) (q : Nat) : Below B w (W.drewN q) := ⟨h.os, h.tape, h.output, h.size, h.block⟩
set_option maxRecDepth 100000 in
set_option maxHeartbeats 32000000 in
theorem rtake_ok {w : World} {q : Nat} {many last now turn : Int} {v : Value} {l : List RL} (h : RefO w q many last now turn v l) (t : ByteArray) (hs : t.size ≤ maxLen) (ht : tokL t.data.toList = true) (hL : l.length ≤ 1000) (hm : 1 ≤ many ∧ many ≤ 1000) (hla : 0 ≤ last ∧ last ≤ 1000000) :
    Calls Tryd.prog 15 #[.pointer (some ⟨q, 0, none⟩), .string t] w (RTakeP w q many last now turn v l t) := by
  have HT := Lib.hid (rtoken_any t hs)
  rw [ht] at HT
  have H := Lib.hid h
  have hc4 := h.c4
  have hc0 := h.c0
  have hqlt := h.lt
  obtain ⟨a, cap, rfl, hc1, hc2, -⟩ := h.own.slice
  obtain ⟨L, hLL⟩ : ∃ L, l.length = L := ⟨_, rfl⟩
  rw [hLL] at hc4 hc1 hL
  have HL := Lib.hid hLL
  clear h hLL ht
  go_enter Tryd.func15, Tryd.ntmps15
  go_wp2_with (go_at_call 33; (with_reducible refine (HT.out _).mono ?_); rintro e w1 ⟨rfl, rfl⟩)
  go_loopw [8, 9, 10] (fun bv ov iv wr => ∃ (i : Nat) (bk ok : Int), bv = .int .i64 bk ∧ ov = .int .i64 ok ∧ iv = .int .i64 i ∧ i ≤ L ∧ Hid (RTakeI t l i bk ok) ∧ Hid (Below w.heap.size w wr)) (fun _ _ iv _ => L - (intOf iv).toNat)
  case atStart => exact ⟨0, -1, -1, rfl, rfl, rfl, by omega, ⟨.inl ⟨rfl, by simp⟩, .inl ⟨rfl, by simp⟩⟩, Below.refl _ _⟩
  case round =>
    obtain ⟨i, bk, ok, rfl, rfl, rfl, hi, HI, HB⟩ := hrel
    have hsz := HB.out.size
    have hcr := (HB.out.cell (p := ⟨q, 4, none⟩) hqlt).trans hc4
    by_cases hlt : i < L
    · have hil : i < l.length := by rw [HL.out]; exact hlt
      obtain ⟨g, c, e, -, hgs, -, -, d0, d1, d2, d3, d4⟩ := H.out.entry hil
      have ea : a = some ⟨g, 0, none⟩ := (Value.slice.inj e).1
      subst ea
      have HEN : Hid (∀ n (y : RL), l[n]? = some y → w.cell? ⟨g, n * 5 + 4, none⟩ = some (.int .i64 y.turn)) := fun n y hy => by
        have hn := (List.getElem?_eq_some_iff.1 hy).1
        obtain ⟨g', c', e', -, -, -, -, -, -, -, -, z4⟩ := H.out.entry hn
        obtain rfl : g = g' := by simp only [Value.slice.injEq, Option.some.injEq, Addr.mk.injEq, and_true] at e'; exact e'.1
        rw [List.getD_eq_getElem?_getD, hy] at z4
        exact z4
      have y0 := (HB.out.cell (p := ⟨g, i * 5, none⟩) hgs).trans d0
      have y1 := (HB.out.cell (p := ⟨g, i * 5 + 1, none⟩) hgs).trans d1
      have y2 := (HB.out.cell (p := ⟨g, i * 5 + 2, none⟩) hgs).trans d2
      have y3 := (HB.out.cell (p := ⟨g, i * 5 + 3, none⟩) hgs).trans d3
      have y4 := (HB.out.cell (p := ⟨g, i * 5 + 4, none⟩) hgs).trans d4
      have hst : l.take (i + 1) = l.take i ++ [l.getD i default] := by rw [List.take_succ_eq_append_getElem hil, List.getD_eq_getElem?_getD, List.getElem?_eq_getElem hil]; rfl
      obtain ⟨⟨xi, xt, xb, xa, xu⟩, hxx⟩ : ∃ y, l.getD i default = y := ⟨_, rfl⟩
      rw [hxx] at y0 y1 y2 y3 y4 hst
      simp only at y0 y1 y2 y3 y4
      have HST := Lib.hid hst
      have i0 : (0 : Int) ≤ (i : Int) := by omega
      have i1 : (i : Int) < (L : Int) := by omega
      have hti : (l.take i).length = i := by rw [List.length_take]; omega
      have HTI := Lib.hid hti
      clear hst hxx d0 d1 d2 d3 d4 e hti
      have hqr : q < wr.heap.size := by omega
      go_upto_region 10 with fail
      have hBa : Below w.heap.size w (wr.alloc (.cells #[.int .i64 xi, .string xt, .bool xb, .int .i64 xa, .int .i64 xu] 53)) := HB.out.alloc hsz _
      have hR : Rds (wr.alloc (.cells #[.int .i64 xi, .string xt, .bool xb, .int .i64 xa, .int .i64 xu] 53)) q g wr.heap.size L cap none xt xb xu := ⟨(World.cell?_alloc_lt _ _ _ hqr).trans hcr, by simp, by simp, by simp⟩
      generalize wr.alloc (.cells #[.int .i64 xi, .string xt, .bool xb, .int .i64 xa, .int .i64 xu] 53) = w3 at *
      have HB3 := Lib.hid hBa
      have HR3 := Lib.hid hR
      have HC3 : Hid (∀ (p : Addr), p.block < w.heap.size → w3.cell? p = w.cell? p) := fun p hp => HB3.out.cell hp
      obtain ⟨r4, s1, s2, s4⟩ := hR
      clear hBa hcr y0 y1 y2 y3 y4 hsz
      cases hb : xb with
      | true =>
        subst hb
        have HN : Hid (RTakeI t l (i + 1) bk ok) := by
          show RTakeI _ _ _ _ _
          unfold RTakeI
          rw [HST.out]
          exact ⟨HI.out.1.skip (.inl rfl), HI.out.2.skip (.inl rfl)⟩
        go_wp2_with fail
        go_roundw
        case measure => simp [intOf]; omega
        case rel => exact ⟨i + 1, bk, ok, rfl, rfl, (by go_num), by omega, HN, HB3⟩
      | false =>
        subst hb
        have HOW : Hid (∀ bk', LeadG (bestP t) ahB (l.take (i + 1)) bk' → (ok = -1 → RTakeI t l (i + 1) bk' i) ∧ ∀ (m : Nat) (z : RL), ok = m → (l.take i)[m]? = some z → (xu < z.turn → RTakeI t l (i + 1) bk' i) ∧ (¬ xu < z.turn → RTakeI t l (i + 1) bk' ok)) := fun bk' hbk => by
          refine ⟨fun e => ⟨hbk, ?_⟩, fun m z e hz => ⟨fun hlt => ⟨hbk, ?_⟩, fun hnl => ⟨hbk, ?_⟩⟩⟩
          · rw [HST.out]; have h := takeO HI.out.2 (x := ⟨xi, xt, false, xa, xu⟩) rfl (.inl e); rw [HTI.out] at h; exact h
          · rw [HST.out]; have h := takeO HI.out.2 (x := ⟨xi, xt, false, xa, xu⟩) rfl (.inr ⟨m, z, e, hz, hlt⟩); rw [HTI.out] at h; exact h
          · rw [HST.out]; exact HI.out.2.skip (.inr ⟨m, z, e, hz, hnl⟩)
        have HBW : Hid ((xt.toList == t.toList) = false → LeadG (bestP t) ahB (l.take (i + 1)) bk) := fun e => by
          rw [HST.out]; exact HI.out.1.skip (.inl (by show (!false && _) = false; rw [e]; rfl))
        have HBT : Hid ((xt.toList == t.toList) = true → (bk = -1 → LeadG (bestP t) ahB (l.take (i + 1)) i) ∧ ∀ (m : Nat) (z : RL), bk = m → (l.take i)[m]? = some z → (z.turn < xu → LeadG (bestP t) ahB (l.take (i + 1)) i) ∧ (¬ z.turn < xu → LeadG (bestP t) ahB (l.take (i + 1)) bk)) := fun e => by
          have hp : bestP t ⟨xi, xt, false, xa, xu⟩ = true := by show (!false && _) = true; rw [e]; rfl
          refine ⟨fun e => ?_, fun m z e hz => ⟨fun hlt => ?_, fun hnl => ?_⟩⟩
          · rw [HST.out]; have h := takeB HI.out.1 hp (.inl e); rw [HTI.out] at h; exact h
          · rw [HST.out]; have h := takeB HI.out.1 hp (.inr ⟨m, z, e, hz, hlt⟩); rw [HTI.out] at h; exact h
          · rw [HST.out]; exact HI.out.1.skip (.inr ⟨m, z, e, hz, hnl⟩)
        have HLT : Hid (∀ (m : Nat) (z : RL), (l.take i)[m]? = some z → m < i ∧ l[m]? = some z) := fun m z hz => by
          have h1 := (List.getElem?_eq_some_iff.1 hz).1
          rw [HTI.out] at h1
          rw [List.getElem?_take, if_pos h1] at hz
          exact ⟨h1, hz⟩
        go_wp2_with fail
        rcases het : (xt.toList == t.toList) with _ | _
        · have HBK := Lib.hid (HBW.out het)
          clear HBW HBT
          go_quiet (fail)
          have HB4 : Hid (Below w.heap.size w (w3.drewN nq)) := below_dq HB3.out nq
          have HR4 : Hid (Rds (w3.drewN nq) q g wr.heap.size L cap none xt false xu) := HR3.out
          have HC4 : Hid (∀ (p : Addr), p.block < w.heap.size → (w3.drewN nq).cell? p = w.cell? p) := HC3.out
          have HO2 := Lib.hid (HOW.out _ HBK.out)
          clear HOW
          generalize w3.drewN nq = w4 at *
          clear r4 s1 s2 s4
          obtain ⟨r4, s1, s2, s4⟩ := HR4.out
          rcases HI.out.2 with ⟨hk, -⟩ | ⟨m, z, hk, hz, -, -⟩
          · subst hk
            have HN := Lib.hid (HO2.out.1 rfl)
            clear HO2
            go_wp2_with fail
            go_quiet (fail)
            go_wp2_with fail
            exact ⟨⟨i + 1, bk, i, rfl, rfl, (by go_num), by omega, HN.out, below_dq HB4.out _⟩, by simp [intOf]; omega⟩
          · have HO3 := Lib.hid (HO2.out.2 m z hk hz)
            obtain ⟨hmi, hlz⟩ := HLT.out m z hz
            have z4 := (HC4.out ⟨g, m * 5 + 4, none⟩ hgs).trans (HEN.out m z hlz)
            subst hk
            obtain ⟨zu, hzu⟩ : ∃ u, z.turn = u := ⟨_, rfl⟩
            rw [hzu] at z4 HO3
            have m0 : (0 : Int) ≤ (m : Int) := by omega
            have m1 : (m : Int) < (L : Int) := by omega
            have m2 : ¬ (m : Int) < 0 := by omega
            have m3 : decide ((m : Int) < 0) = false := decide_eq_false m2
            clear hzu hz hlz HO2
            by_cases hu : xu < zu
            · have HN := Lib.hid (HO3.out.1 hu)
              have m4 : decide (xu < zu) = true := decide_eq_true hu
              clear HO3
              go_wp2_with fail
              go_quiet (fail)
              go_wp2_with fail
              exact ⟨⟨i + 1, bk, i, rfl, rfl, (by go_num), by omega, HN.out, below_dq HB4.out _⟩, by simp [intOf]; omega⟩
            · have HN := Lib.hid (HO3.out.2 (by omega))
              have m4 : decide (xu < zu) = false := decide_eq_false hu
              clear HO3
              go_wp2_with fail
              go_quiet (fail)
              go_wp2_with fail
              exact ⟨⟨i + 1, bk, m, rfl, rfl, (by go_num), by omega, HN.out, below_dq HB4.out _⟩, by simp [intOf]; omega⟩
        · have HB2 := Lib.hid (HBT.out het)
          clear HBW HBT
          rcases HI.out.1 with ⟨hk, -⟩ | ⟨m, z, hk, hz, -, -⟩
          · subst hk
            have HBK := Lib.hid (HB2.out.1 rfl)
            clear HB2
            go_quiet (fail)
            have HB4 : Hid (Below w.heap.size w (w3.drewN nq)) := below_dq HB3.out nq
            have HR4 : Hid (Rds (w3.drewN nq) q g wr.heap.size L cap none xt false xu) := HR3.out
            have HC4 : Hid (∀ (p : Addr), p.block < w.heap.size → (w3.drewN nq).cell? p = w.cell? p) := HC3.out
            have HO2 := Lib.hid (HOW.out _ HBK.out)
            clear HOW
            generalize w3.drewN nq = w4 at *
            clear r4 s1 s2 s4
            obtain ⟨r4, s1, s2, s4⟩ := HR4.out
            rcases HI.out.2 with ⟨hk, -⟩ | ⟨m, z, hk, hz, -, -⟩
            · subst hk
              have HN := Lib.hid (HO2.out.1 rfl)
              clear HO2
              go_wp2_with fail
              go_quiet (fail)
              go_wp2_with fail
              exact ⟨⟨i + 1, i, i, rfl, rfl, (by go_num), by omega, HN.out, below_dq HB4.out _⟩, by simp [intOf]; omega⟩
            · have HO3 := Lib.hid (HO2.out.2 m z hk hz)
              obtain ⟨hmi, hlz⟩ := HLT.out m z hz
              have z4 := (HC4.out ⟨g, m * 5 + 4, none⟩ hgs).trans (HEN.out m z hlz)
              subst hk
              obtain ⟨zu, hzu⟩ : ∃ u, z.turn = u := ⟨_, rfl⟩
              rw [hzu] at z4 HO3
              have m0 : (0 : Int) ≤ (m : Int) := by omega
              have m1 : (m : Int) < (L : Int) := by omega
              have m2 : ¬ (m : Int) < 0 := by omega
              have m3 : decide ((m : Int) < 0) = false := decide_eq_false m2
              clear hzu hz hlz HO2
              by_cases hu : xu < zu
              · have HN := Lib.hid (HO3.out.1 hu)
                have m4 : decide (xu < zu) = true := decide_eq_true hu
                clear HO3
                go_wp2_with fail
                go_quiet (fail)
                go_wp2_with fail
                exact ⟨⟨i + 1, i, i, rfl, rfl, (by go_num), by omega, HN.out, below_dq HB4.out _⟩, by simp [intOf]; omega⟩
              · have HN := Lib.hid (HO3.out.2 (by omega))
                have m4 : decide (xu < zu) = false := decide_eq_false hu
                clear HO3
                go_wp2_with fail
                go_quiet (fail)
                go_wp2_with fail
                exact ⟨⟨i + 1, i, m, rfl, rfl, (by go_num), by omega, HN.out, below_dq HB4.out _⟩, by simp [intOf]; omega⟩
          · have HB3' := Lib.hid (HB2.out.2 m z hk hz)
            obtain ⟨hmi, hlz⟩ := HLT.out m z hz
            have z4 := (HC3.out ⟨g, m * 5 + 4, none⟩ hgs).trans (HEN.out m z hlz)
            subst hk
            obtain ⟨zu, hzu⟩ : ∃ u, z.turn = u := ⟨_, rfl⟩
            rw [hzu] at z4 HB3'
            have m0 : (0 : Int) ≤ (m : Int) := by omega
            have m1 : (m : Int) < (L : Int) := by omega
            have m2 : ¬ (m : Int) < 0 := by omega
            have m3 : decide ((m : Int) < 0) = false := decide_eq_false m2
            clear hzu hz hlz HB2
            by_cases hu : zu < xu
            · have HBK := Lib.hid (HB3'.out.1 hu)
              have m4 : decide (zu < xu) = true := decide_eq_true hu
              clear HB3'
              go_quiet (fail)
              clear z4
              have HB4 : Hid (Below w.heap.size w (w3.drewN nq)) := below_dq HB3.out nq
              have HR4 : Hid (Rds (w3.drewN nq) q g wr.heap.size L cap none xt false xu) := HR3.out
              have HC4 : Hid (∀ (p : Addr), p.block < w.heap.size → (w3.drewN nq).cell? p = w.cell? p) := HC3.out
              have HO2 := Lib.hid (HOW.out _ HBK.out)
              clear HOW
              generalize w3.drewN nq = w4 at *
              clear r4 s1 s2 s4
              obtain ⟨r4, s1, s2, s4⟩ := HR4.out
              rcases HI.out.2 with ⟨hk, -⟩ | ⟨m, z, hk, hz, -, -⟩
              · subst hk
                have HN := Lib.hid (HO2.out.1 rfl)
                clear HO2
                go_wp2_with fail
                go_quiet (fail)
                go_wp2_with fail
                exact ⟨⟨i + 1, i, i, rfl, rfl, (by go_num), by omega, HN.out, below_dq HB4.out _⟩, by simp [intOf]; omega⟩
              · have HO3 := Lib.hid (HO2.out.2 m z hk hz)
                obtain ⟨hmi, hlz⟩ := HLT.out m z hz
                have z4 := (HC4.out ⟨g, m * 5 + 4, none⟩ hgs).trans (HEN.out m z hlz)
                subst hk
                obtain ⟨zu, hzu⟩ : ∃ u, z.turn = u := ⟨_, rfl⟩
                rw [hzu] at z4 HO3
                have m0 : (0 : Int) ≤ (m : Int) := by omega
                have m1 : (m : Int) < (L : Int) := by omega
                have m2 : ¬ (m : Int) < 0 := by omega
                have m3 : decide ((m : Int) < 0) = false := decide_eq_false m2
                clear hzu hz hlz HO2
                by_cases hu : xu < zu
                · have HN := Lib.hid (HO3.out.1 hu)
                  have m4 : decide (xu < zu) = true := decide_eq_true hu
                  clear HO3
                  go_wp2_with fail
                  go_quiet (fail)
                  go_wp2_with fail
                  exact ⟨⟨i + 1, i, i, rfl, rfl, (by go_num), by omega, HN.out, below_dq HB4.out _⟩, by simp [intOf]; omega⟩
                · have HN := Lib.hid (HO3.out.2 (by omega))
                  have m4 : decide (xu < zu) = false := decide_eq_false hu
                  clear HO3
                  go_wp2_with fail
                  go_quiet (fail)
                  go_wp2_with fail
                  exact ⟨⟨i + 1, i, m, rfl, rfl, (by go_num), by omega, HN.out, below_dq HB4.out _⟩, by simp [intOf]; omega⟩
            · have HBK := Lib.hid (HB3'.out.2 (by omega))
              have m4 : decide (zu < xu) = false := decide_eq_false hu
              clear HB3'
              go_quiet (fail)
              clear z4
              have HB4 : Hid (Below w.heap.size w (w3.drewN nq)) := below_dq HB3.out nq
              have HR4 : Hid (Rds (w3.drewN nq) q g wr.heap.size L cap none xt false xu) := HR3.out
              have HC4 : Hid (∀ (p : Addr), p.block < w.heap.size → (w3.drewN nq).cell? p = w.cell? p) := HC3.out
              have HO2 := Lib.hid (HOW.out _ HBK.out)
              clear HOW
              generalize w3.drewN nq = w4 at *
              clear r4 s1 s2 s4
              obtain ⟨r4, s1, s2, s4⟩ := HR4.out
              rcases HI.out.2 with ⟨hk, -⟩ | ⟨mo, z, hk, hz, -, -⟩
              · subst hk
                have HN := Lib.hid (HO2.out.1 rfl)
                clear HO2
                go_wp2_with fail
                go_quiet (fail)
                go_wp2_with fail
                exact ⟨⟨i + 1, m, i, rfl, rfl, (by go_num), by omega, HN.out, below_dq HB4.out _⟩, by simp [intOf]; omega⟩
              · have HO3 := Lib.hid (HO2.out.2 mo z hk hz)
                obtain ⟨hmi, hlz⟩ := HLT.out mo z hz
                have z4 := (HC4.out ⟨g, mo * 5 + 4, none⟩ hgs).trans (HEN.out mo z hlz)
                subst hk
                obtain ⟨zu, hzu⟩ : ∃ u, z.turn = u := ⟨_, rfl⟩
                rw [hzu] at z4 HO3
                have o0 : (0 : Int) ≤ (mo : Int) := by omega
                have o1 : (mo : Int) < (L : Int) := by omega
                have o2 : ¬ (mo : Int) < 0 := by omega
                have o3 : decide ((mo : Int) < 0) = false := decide_eq_false o2
                clear hzu hz hlz HO2
                by_cases hu : xu < zu
                · have HN := Lib.hid (HO3.out.1 hu)
                  have m4 : decide (xu < zu) = true := decide_eq_true hu
                  clear HO3
                  go_wp2_with fail
                  go_quiet (fail)
                  go_wp2_with fail
                  exact ⟨⟨i + 1, m, i, rfl, rfl, (by go_num), by omega, HN.out, below_dq HB4.out _⟩, by simp [intOf]; omega⟩
                · have HN := Lib.hid (HO3.out.2 (by omega))
                  have m4 : decide (xu < zu) = false := decide_eq_false hu
                  clear HO3
                  go_wp2_with fail
                  go_quiet (fail)
                  go_wp2_with fail
                  exact ⟨⟨i + 1, m, mo, rfl, rfl, (by go_num), by omega, HN.out, below_dq HB4.out _⟩, by simp [intOf]; omega⟩
    · obtain rfl : L = i := by omega
      have hN : ¬ ((L : Int) < (L : Int)) := by omega
      have e1 : l.take L = l := by rw [← HL.out]; exact List.take_length
      have HB1 : Hid (LeadG (bestP t) ahB l bk) := by have := HI.out.1; rw [e1] at this; exact this
      have HO1 : Hid (LeadG oldP ahO l ok) := by have := HI.out.2; rw [e1] at this; exact this
      have HWR := Lib.hid (H.out.below HB.out)
      have HMR : Hid (Mod (RefS q (.slice a l.length cap)) w wr) := Mod.ofBelow HB.out (fun k h1 h2 => by omega)
      clear HI e1
      rcases HB1.out with ⟨hk, hno⟩ | ⟨n, x, hk, hx, hp, -⟩
      · subst hk
        have HB2 := Lib.hid hno
        have c0r := HWR.out.c0
        have t0 : ¬ (0 : Int) ≤ -1 := by omega
        clear hno
        by_cases hf : many ≤ (L : Int)
        · have t1 : decide (many ≤ (L : Int)) = true := decide_eq_true hf
          go_wp2_with fail
          go_quiet (fail)
          have HR4 : Hid (RefO (wr.drewN nq) q many last now turn (.slice a l.length cap) l) := HWR.out.below (below_dq (Below.refl _ _) nq)
          have HM4 : Hid (Mod (RefS q (.slice a l.length cap)) w (wr.drewN nq)) := HMR.out.below (below_dq (Below.refl wr.heap.size _) nq) (fun k h1 h2 => by have := HB.out.size; omega)
          generalize wr.drewN nq = w4 at *
          clear HWR HMR c0r hcr
          rcases HO1.out with ⟨hk, -⟩ | ⟨n, x, hk, hx, -, -⟩
          · subst hk
            go_wp2_with fail
            go_ret3
            exact ⟨_, HM4.out, .inl rfl, .inr ⟨HB1.out, .inl ⟨by rw [HL.out]; exact hf, HO1.out, rfl, HR4.out⟩⟩⟩
          · subst hk
            have hn : n < l.length := (List.getElem?_eq_some_iff.1 hx).1
            have HDR := Lib.hid (drop_any HR4.out n hn (by rw [HL.out]; omega))
            have n0 : ¬ (n : Int) < 0 := by omega
            have HNN := Lib.hid hn
            clear hx hn
            go_upto_region 22 with (go_at_call 34; (with_reducible refine HDR.out.mono ?_); rintro e w5 ⟨v5, rfl, hO5, hM5, hv5⟩; obtain ⟨a5, n5, c5, rfl⟩ := own_form hO5.own; have HR5 := Lib.hid hO5; have HM5 := Lib.hid (HM4.out.andThen hM5 (fun k _ h => .inl h)); have HV5 := Lib.hid hv5; clear hO5 hM5 hv5)
            have HLN : Hid ((l.take n ++ l.drop (n + 1)).length ≤ 1000) := (by show _ ≤ _; rw [List.length_append, List.length_take, List.length_drop, HL.out]; omega)
            have hs4 := HM4.out.size
            have NE5 : ∀ k, (Value.slice a5 n5 c5).ownBlock = some k → k < w.heap.size → False := fun k h1 h2 => by
              rcases HV5.out with h | ⟨g, h, hg⟩
              · rw [h] at h1; cases h1
              · rw [h] at h1; have := Option.some.inj h1; omega
            clear HDR HR4 HM4
            have c15 := HR5.out.c1
            have f15 := HR5.out.thaw 1
            have HR6 := Lib.hid (HR5.out.setLast (last + 1))
            have HM6 := Lib.hid (HM5.out.setCell (p := ⟨q, 1, none⟩) (fun _ => .inl rfl) (.int .i64 (last + 1)))
            go_wp2_with fail
            generalize w5.setCell ⟨q, 1, none⟩ (.int .i64 (last + 1)) = w6 at *
            have hs6 := HM6.out.size
            clear c15 f15 HR5 HM5
            obtain ⟨a6, n6, c6, a7, n7, c7, W7, e6, k0, k1, k4, hrun, k5, k6, hO7, hN7, hM7⟩ := app_new HR6.out t HLN.out
            obtain ⟨rfl, rfl, rfl⟩ := Value.slice.inj e6
            have mixed : Tryd.prog.follows Departure.mixedOrders = true := by kernel_rfl
            have HRUN := Lib.hid hrun
            have HO7 := Lib.hid hO7
            have HN7 := Lib.hid hN7
            have HM7 := Lib.hid (HM6.out.andThen hM7 (fun k hk h => h.elim .inl (fun hh => (NE5 k hh hk).elim)))
            have k7 := hO7.c1
            clear e6 hrun hO7 hN7 hM7 HR6 HM6
            go_region_law_o (refine step_append_run rfl _ _ 41 rfl _ _ (by simp [Act.eval, Act.put]) (by simp [Act.eval, Act.put]) HRUN.out ?_)
            all_goals (go_wp2_with fail)
            all_goals go_ret3
            all_goals exact ⟨_, HM7.out, near2 HV5.out hs4 HN7.out hs6, .inr ⟨HB1.out, .inr ⟨rfl, .inl ⟨by rw [HL.out]; exact hf, n, HNN.out, HO1.out, HO7.out⟩⟩⟩⟩
        · have t1 : decide (many ≤ (L : Int)) = false := decide_eq_false hf
          go_wp2_with fail
          go_quiet (fail)
          have HR5 : Hid (RefO (wr.drewN nq) q many last now turn (.slice a l.length cap) l) := HWR.out.below (below_dq (Below.refl _ _) nq)
          have HM5 : Hid (Mod (RefS q (.slice a l.length cap)) w (wr.drewN nq)) := HMR.out.below (below_dq (Below.refl wr.heap.size _) nq) (fun k h1 h2 => by have := HB.out.size; omega)
          generalize wr.drewN nq = w5 at *
          have HLN : Hid (l.length ≤ 1000) := (by show _ ≤ _; rw [HL.out]; omega)
          have hs5 := HM5.out.size
          clear HWR HMR c0r hcr
          have c15 := HR5.out.c1
          have f15 := HR5.out.thaw 1
          have HR6 := Lib.hid (HR5.out.setLast (last + 1))
          have HM6 := Lib.hid (HM5.out.setCell (p := ⟨q, 1, none⟩) (fun _ => .inl rfl) (.int .i64 (last + 1)))
          go_wp2_with fail
          generalize w5.setCell ⟨q, 1, none⟩ (.int .i64 (last + 1)) = w6 at *
          have hs6 := HM6.out.size
          clear c15 f15 HR5 HM5
          obtain ⟨a6, n6, c6, a7, n7, c7, W7, e6, k0, k1, k4, hrun, k5, k6, hO7, hN7, hM7⟩ := app_new HR6.out t HLN.out
          obtain ⟨rfl, rfl, rfl⟩ := Value.slice.inj e6
          have mixed : Tryd.prog.follows Departure.mixedOrders = true := by kernel_rfl
          have HRUN := Lib.hid hrun
          have HO7 := Lib.hid hO7
          have HN7 := Lib.hid hN7
          have HM7 := Lib.hid (HM6.out.andThen hM7 (fun k hk h => h))
          have k7 := hO7.c1
          clear e6 hrun hO7 hN7 hM7 HR6 HM6
          go_region_law_o (refine step_append_run rfl _ _ 41 rfl _ _ (by simp [Act.eval, Act.put]) (by simp [Act.eval, Act.put]) HRUN.out ?_)
          all_goals (go_wp2_with fail)
          all_goals go_ret3
          all_goals exact ⟨_, HM7.out, near3 hs6 HN7.out, .inr ⟨HB1.out, .inr ⟨rfl, .inr ⟨by rw [HL.out]; omega, HO7.out⟩⟩⟩⟩
      · subst hk
        have hn : n < l.length := (List.getElem?_eq_some_iff.1 hx).1
        have hxx : l.getD n default = x := by rw [List.getD_eq_getElem?_getD, hx]; rfl
        obtain ⟨g, c, e, -, hgs, -, -, d0, d1, d2, d3, d4⟩ := HWR.out.entry hn
        have ea : a = some ⟨g, 0, none⟩ := (Value.slice.inj e).1
        subst ea
        rw [hxx] at d0
        have f2 := own_frozen HWR.out.own (n * 5 + 2)
        have R2 := HWR.out.cell n 2 hn (by decide) (.bool true) ⟨x.id, x.to, true, x.at_, x.turn⟩ (by rw [show l[n] = x by rw [List.getElem?_eq_getElem hn] at hx; exact Option.some.inj hx]; rfl)
        have HR2 := Lib.hid R2
        have HX := Lib.hid hx
        have hnL : n < L := by rw [← HL.out]; exact hn
        have n0 : (0 : Int) ≤ (n : Int) := by omega
        have n1 : (n : Int) < (L : Int) := by omega
        have hM2 := HMR.out.setCell (p := ⟨g, n * 5 + 2, none⟩) (fun _ => .inr rfl) (.bool true)
        have HM2 := Lib.hid hM2
        clear R2 e hxx hp hx d1 d3 d4 hM2
        go_wp2_with fail
        go_ret3
        refine ⟨_, HM2.out, .inl rfl, .inl ⟨n, x, HB1.out, HX.out, rfl, HR2.out⟩⟩
end Go.Proofs.YtcdhjbeeehjpiaaDoor.PoolR
