/-
  The reference's pool: Back.
  Conditions: where its blocks lie.
-/
import Derived.Test.YtcdhjbeeehjpiaaDoorPoolRefA
import Derived.Deep.RegionHeld3
namespace Go.Proofs.YtcdhjbeeehjpiaaDoor.PoolR
open Go.RowKit MapsL ModL RowsK RowsM
set_option linter.unusedSimpArgs false
set_option linter.unusedVariables false

def hitB (id : Int) (x : RL) : Bool := x.id == id && x.busy
/-- What the blocks of the reference's pool are. -/
def RefS (q : Nat) (v : Value) (k : Nat) : Prop := k = q ∨ v.ownBlock = some k
/-- The row lies where it lay, or anew. -/
def NearR (w : World) (v v' : Value) : Prop := v'.ownBlock = v.ownBlock ∨ ∀ k, v'.ownBlock = some k → w.heap.size ≤ k
theorem nearR_new {w : World} {v v' : Value} (h : v'.ownBlock = none ∨ ∃ g, v'.ownBlock = some g ∧ w.heap.size ≤ g) : NearR w v v' := .inr fun k hk => by
  rcases h with h | ⟨g, h, hg⟩
  · rw [h] at hk; cases hk
  · rw [h] at hk; obtain rfl := Option.some.inj hk; exact hg
set_option maxRecDepth 100000 in
set_option maxHeartbeats 4000000 in
theorem rback_none {w : World} {q : Nat} {many last now turn : Int} {v : Value} {l : List RL} (h : RefO w q many last now turn v l) (id : Int) (good : Bool) (hl : l.length ≤ 1000000) (hno : ∀ x ∈ l, hitB id x = false) :
    Calls Tryd.prog 16 #[.pointer (some ⟨q, 0, none⟩), .int .i64 id, .bool good] w fun e w' => e = .returned (.int .i64 5) ∧ w = w' := by
  have hc4 := h.c4
  obtain ⟨a, cap, rfl, hc1, hc2, _⟩ := h.own.slice
  have H := Lib.hid h
  have HNO := Lib.hid hno
  obtain ⟨L, hL⟩ : ∃ L, l.length = L := ⟨_, rfl⟩
  rw [hL] at hc4 hc1 hl
  have HL := Lib.hid hL
  clear h hno hL
  go_enter Tryd.func16, Tryd.ntmps16
  go_wp2_with fail
  go_loop [7] (fun iv => ∃ i : Nat, iv = .int .i64 i ∧ i ≤ L) (fun iv => L - (intOf iv).toNat)
  case atStart => exact ⟨0, rfl, by omega⟩
  case round =>
    obtain ⟨i, rfl, hi⟩ := hrel
    by_cases hlt : i < L
    · have hil : i < l.length := by rw [HL.out]; exact hlt
      obtain ⟨g, c, e, -, -, -, -, d0, d1, d2, -⟩ := H.out.entry hil
      obtain ⟨rfl, _, _⟩ := Value.slice.inj e
      have hn := HNO.out (l.getD i default) (by rw [List.getD_eq_getElem?_getD, List.getElem?_eq_getElem hil]; exact List.getElem_mem hil)
      obtain ⟨⟨xi, xt, xb, xa, xu⟩, hx⟩ : ∃ y, l.getD i default = y := ⟨_, rfl⟩
      rw [hx] at d0 d2 hn
      simp only at d0 d2
      have i0 : (0 : Int) ≤ (i : Int) := by omega
      have i1 : (i : Int) < (L : Int) := by omega
      clear hx e d1
      unfold hitB at hn
      simp only at hn
      cases hid : (xi == id) with
      | false =>
        clear hn
        go_wp2_with fail
        go_round
        case measure => simp [intOf]; omega
        case rel => exact ⟨i + 1, (by go_num), by omega⟩
      | true =>
        rw [hid] at hn
        simp only [Bool.true_and] at hn
        subst hn
        go_wp2_with fail
        go_round
        case measure => simp [intOf]; omega
        case rel => exact ⟨i + 1, (by go_num), by omega⟩
    · obtain rfl : L = i := by omega
      have hN : ¬ ((L : Int) < (L : Int)) := by omega
      go_wp2_with fail
      go_ret
      exact ⟨rfl, rfl⟩
def BackP (w : World) (q : Nat) (many last now turn : Int) (v : Value) (l : List RL) (n : Nat) (good : Bool) (e : Ending) (w' : World) : Prop :=
  ∃ v', e = .returned (.int .i64 0) ∧ Mod (RefS q v) w w' ∧ NearR w v v' ∧
      (if good then RefO w' q many last now (turn + 1) v' (l.set n ⟨(l.getD n default).id, (l.getD n default).to, false, now, turn + 1⟩) else RefO w' q many last now turn v' (l.take n ++ l.drop (n + 1)))
set_option maxRecDepth 100000 in
set_option maxHeartbeats 8000000 in
theorem rback_hit {w : World} {q : Nat} {many last now turn : Int} {v : Value} {l : List RL} (h : RefO w q many last now turn v l) (id : Int) (good : Bool) (hl : l.length ≤ 1000000) (n : Nat) (hn : n < l.length) (hh : hitB id (l.getD n default) = true) (hbef : ∀ j, j < n → hitB id (l.getD j default) = false) (ht : 0 ≤ turn ∧ turn ≤ 1000000) :
    Calls Tryd.prog 16 #[.pointer (some ⟨q, 0, none⟩), .int .i64 id, .bool good] w (BackP w q many last now turn v l n good) := by
  have hc4 := h.c4
  have hc2' := h.c2
  have hc3' := h.c3
  have hf3 := h.thaw 3
  have hqlt := h.lt
  have HDR := Lib.hid (drop_any h n hn hl)
  obtain ⟨g, cap, rfl, hg, hg2, hc1, hc2, -⟩ := h.entry hn
  have hfr := own_frozen h.own
  have H := Lib.hid h
  have HB := Lib.hid hbef
  have HH := Lib.hid hh
  obtain ⟨L, hL⟩ : ∃ L, l.length = L := ⟨_, rfl⟩
  rw [hL] at hc4 hc1 hl hn
  have HL := Lib.hid hL
  clear h hbef hL hh
  go_enter Tryd.func16, Tryd.ntmps16
  go_wp2_with fail
  go_loop [7] (fun iv => ∃ i : Nat, iv = .int .i64 i ∧ i ≤ n) (fun iv => n - (intOf iv).toNat)
  case atStart => exact ⟨0, rfl, by omega⟩
  case round =>
    obtain ⟨i, rfl, hi⟩ := hrel
    have hil : i < l.length := by rw [HL.out]; omega
    obtain ⟨g', c, e, -, -, -, -, d0, d1, d2, d3, d4⟩ := H.out.entry hil
    obtain rfl : g = g' := by simp only [Value.slice.injEq, Option.some.injEq, Addr.mk.injEq, and_true] at e; exact e.1
    have i0 : (0 : Int) ≤ (i : Int) := by omega
    have i1 : (i : Int) < (L : Int) := by omega
    clear e
    by_cases hlt : i < n
    · have hm := HB.out i hlt
      obtain ⟨⟨xi, xt, xb, xa, xu⟩, hx⟩ : ∃ y, l.getD i default = y := ⟨_, rfl⟩
      rw [hx] at d0 d2 hm
      simp only at d0 d2
      clear hx d1 d3 d4
      unfold hitB at hm
      simp only at hm
      cases hid : (xi == id) with
      | false =>
        clear hm
        go_wp2_with fail
        go_round
        case measure => simp [intOf]; omega
        case rel => exact ⟨i + 1, (by go_num), by omega⟩
      | true =>
        rw [hid] at hm
        simp only [Bool.true_and] at hm
        subst hm
        go_wp2_with fail
        go_round
        case measure => simp [intOf]; omega
        case rel => exact ⟨i + 1, (by go_num), by omega⟩
    · obtain rfl : n = i := by omega
      have hm := HH.out
      obtain ⟨⟨xi, xt, xb, xa, xu⟩, hx⟩ : ∃ y, l.getD n default = y := ⟨_, rfl⟩
      rw [hx] at d0 d1 d2 d3 d4 hm
      simp only at d0 d1 d2 d3 d4
      have HX := Lib.hid hx
      clear hx
      unfold hitB at hm
      simp only [Bool.and_eq_true] at hm
      obtain ⟨hid, hbusy⟩ := hm
      subst hbusy
      obtain rfl : xi = id := by simpa using hid
      clear hid
      cases good with
      | false =>
        go_wp2_with (go_at_call 34; (with_reducible refine HDR.out.mono ?_); rintro e w2 ⟨v2, rfl, hO, hM, hv⟩; have HO := Lib.hid hO; have HM := Lib.hid hM; have HV := Lib.hid hv; clear hO hM hv)
        go_ret
        exact ⟨v2, rfl, HM.out.mono (fun k _ h => .inl h), nearR_new HV.out, by simpa using HO.out⟩
      | true =>
        clear HDR
        go_wp2_with fail
        have hgv : ∀ (y : RL) (j : Nat) (u : Value) (l' : List RL), True := fun _ _ _ _ => trivial
        have hnl : n < l.length := by rw [HL.out]; exact hn
        have hgd : l[n] = l.getD n default := by rw [List.getD_eq_getElem?_getD, List.getElem?_eq_getElem hnl]; rfl
        have R1 := (H.out.setTurn (turn + 1)).cell n 2 hnl (by decide) (.bool false) ⟨xi, xt, false, xa, xu⟩ (by rw [hgd, HX.out]; rfl)
        have M1 : Mod (RefS q (.slice (some ⟨g, 0, none⟩) l.length cap)) w ((w.setCell ⟨q, 3, none⟩ (.int .i64 (turn + 1))).setCell ⟨g, n * 5 + 2, none⟩ (.bool false)) := ((Mod.refl _ w).setCell (p := ⟨q, 3, none⟩) (fun _ => .inl rfl) _).setCell (p := ⟨g, n * 5 + 2, none⟩) (fun _ => .inr rfl) _
        generalize (w.setCell ⟨q, 3, none⟩ (.int .i64 (turn + 1))).setCell ⟨g, n * 5 + 2, none⟩ (.bool false) = w1 at *
        have a2 := R1.c2
        have a4 := R1.c4
        rw [HL.out] at a4
        have e1 := R1.entry (i := n) (by rw [List.length_set]; exact hnl)
        obtain ⟨g', c', e', -, hg3, -, -, -, -, -, m3, -⟩ := e1
        obtain rfl : g = g' := by simp only [Value.slice.injEq, Option.some.injEq, Addr.mk.injEq, and_true] at e'; exact e'.1
        have f3 := own_frozen R1.own (n * 5 + 3)
        have R2 := R1.drew.cell n 3 (by rw [List.length_set]; exact hnl) (by decide) (.int .i64 now) ⟨xi, xt, false, now, xu⟩ (by rw [List.getElem_set_self]; rfl)
        rw [List.set_set] at R2
        have M2 := M1.drew.setCell (p := ⟨g, n * 5 + 3, none⟩) (fun _ => .inr rfl) (.int .i64 now)
        have b2 := R2.c2
        have b4 := R2.c4
        rw [HL.out] at b4
        have HR2 := Lib.hid R2
        have HM2 := Lib.hid M2
        clear R1 R2 M1 M2 e' d0 d1 d2 d3 d4
        go_region_held3 (fun w' => w'.cell? ⟨q, 4, none⟩ = some (.slice (some ⟨g, 0, none⟩) L cap) ∧ w'.cell? ⟨q, 2, none⟩ = some (.int .i64 now)) (first | exact ⟨a4, a2⟩ | exact ⟨b4, b2⟩) (fail)
        have HR3 : Hid (RefO (w1.setCell ⟨g, n * 5 + 3, none⟩ (.int .i64 now)).drew q many last now (turn + 1) _ _) := HR2.out
        have HM3 : Hid (Mod _ w (w1.setCell ⟨g, n * 5 + 3, none⟩ (.int .i64 now)).drew) := HM2.out
        clear HR2 HM2 a2 a4 b2 b4 f3 m3
        generalize (w1.setCell ⟨g, n * 5 + 3, none⟩ (.int .i64 now)).drew = w2 at *
        have a3 := HR3.out.c3
        have a4 := HR3.out.c4
        rw [HL.out] at a4
        have e1 := HR3.out.entry (i := n) (by rw [List.length_set]; exact hnl)
        obtain ⟨g', c', e', -, hg4, -, -, -, -, -, -, m4⟩ := e1
        obtain rfl : g = g' := by simp only [Value.slice.injEq, Option.some.injEq, Addr.mk.injEq, and_true] at e'; exact e'.1
        have f4 := own_frozen HR3.out.own (n * 5 + 4)
        have R4 := HR3.out.drew.cell n 4 (by rw [List.length_set]; exact hnl) (by decide) (.int .i64 (turn + 1)) ⟨xi, xt, false, now, turn + 1⟩ (by rw [List.getElem_set_self]; rfl)
        rw [List.set_set] at R4
        have M4 := HM3.out.drew.setCell (p := ⟨g, n * 5 + 4, none⟩) (fun _ => .inr rfl) (.int .i64 (turn + 1))
        have b3 := R4.c3
        have b4 := R4.c4
        rw [HL.out] at b4
        have HR4 := Lib.hid R4
        have HM4 := Lib.hid M4
        clear R4 M4 e' HR3 HM3
        go_wp2_with fail
        go_region_held3 (fun w' => w'.cell? ⟨q, 4, none⟩ = some (.slice (some ⟨g, 0, none⟩) L cap) ∧ w'.cell? ⟨q, 3, none⟩ = some (.int .i64 (turn + 1))) (first | exact ⟨a4, a3⟩ | exact ⟨b4, b3⟩) (fail)
        go_wp2_with fail
        go_ret
        refine ⟨_, rfl, HM4.out, .inl rfl, ?_⟩
        rw [if_pos rfl, HX.out]
        exact HR4.out
end Go.Proofs.YtcdhjbeeehjpiaaDoor.PoolR
