/-
  The reference's limit: at, check, left.
  Conditions: where its blocks lie; the bounds.
-/
import Derived.Test.YtfgplghjgjnggaaDoorLimit
import Derived.Test.YtfgplghjgjnggaaDoorRowsMore
import Derived.Deep.Cut
import Derived.Deep.CutRange
import Derived.Deep.QuietTactic
import Derived.BigQuiet
namespace Go.Proofs.YtfgplghjgjnggaaDoor.LimR
open Go.RowKit MapsL ModL RowsK RowsM LimitC
set_option linter.unusedSimpArgs false
set_option linter.unusedVariables false

def str (k : List UInt8) : ByteArray := ⟨k.toArray⟩
theorem str_list (k : List UInt8) : (str k).data.toList = k := by simp [str]
theorem str_of (s : ByteArray) : str s.data.toList = s := by cases s; simp [str]
theorem str_inj {a b : List UInt8} (h : str a = str b) : a = b := by have := congrArg (fun s : ByteArray => s.data.toList) h; simpa [str] using this
theorem toList_ne {t s : ByteArray} (h : t ≠ s) : (t.toList == s.toList) = false := by
  refine beq_eq_false_iff_ne.2 fun e => h ?_
  rw [ByteArray.toList_eq, ByteArray.toList_eq] at e
  cases t; cases s
  congr 1
  exact Array.toList_inj.1 e
def E : Enc Ent where
  k := 4
  enc := fun e => [.string (str e.key), .int .i64 e.left, .int .i64 e.at_, .int .i64 e.seen]
  len := fun _ => rfl
  one := fun e v hv => by simp at hv; rcases hv with rfl | rfl | rfl | rfl <;> rfl
  pos := by decide
theorem elem : Elem Tryd.prog 50 92 E.k 40 := Elem.of Tryd.underlying50 (z := .agg #[.string ⟨#[]⟩, .int .i64 0, .int .i64 0, .int .i64 0]) (by kernel_rfl) (by rfl) (by decide)
/-- The reference's limit lies so. -/
structure RefB (w : World) (q : Nat) (rate burst : Int) (v : Value) (l : List Ent) : Prop where
  c0 : w.cell? ⟨q, 0, none⟩ = some (.int .i64 rate)
  c1 : w.cell? ⟨q, 1, none⟩ = some (.int .i64 burst)
  c2 : w.cell? ⟨q, 2, none⟩ = some v
  f2 : w.frozen? ⟨q, 2, none⟩ = false
  own : Own E w (q + 1) 92 v l
theorem RefB.lt {w : World} {q : Nat} {rate burst : Int} {v : Value} {l : List Ent} (h : RefB w q rate burst v l) : q < w.heap.size := block_lt_of_cell h.c0
theorem RefB.of_block {w w' : World} {q : Nat} {rate burst : Int} {v : Value} {l : List Ent} (h : RefB w q rate burst v l) (hq : w'.heap[q]? = w.heap[q]?) (hv : ∀ k, v.ownBlock = some k → w'.heap[k]? = w.heap[k]?) : RefB w' q rate burst v l :=
  ⟨(World.cell?_of_block (a := ⟨q, 0, none⟩) hq).trans h.c0, (World.cell?_of_block (a := ⟨q, 1, none⟩) hq).trans h.c1, (World.cell?_of_block (a := ⟨q, 2, none⟩) hq).trans h.c2, (World.frozen?_of_block (a := ⟨q, 2, none⟩) hq).trans h.f2, h.own.of_block hv⟩
theorem RefB.below {w w' : World} {q : Nat} {rate burst : Int} {v : Value} {l : List Ent} (h : RefB w q rate burst v l) (hB : Below w.heap.size w w') : RefB w' q rate burst v l :=
  h.of_block (hB.block q h.lt) fun k hk => hB.block k (h.own.lt k hk).2
theorem RefB.mod {w w' : World} {q : Nat} {rate burst : Int} {v : Value} {l : List Ent} (h : RefB w q rate burst v l) {S : Nat → Prop} (hM : Mod S w w') (hq : ¬ S q) (hv : ∀ g, v.ownBlock = some g → ¬ S g) : RefB w' q rate burst v l :=
  h.of_block (hM.block q h.lt hq) fun k hk => hM.block k (h.own.lt k hk).2 (hv k hk)
theorem RefB.heap {w w' : World} {q : Nat} {rate burst : Int} {v : Value} {l : List Ent} (h : RefB w q rate burst v l) (hh : w'.heap = w.heap) : RefB w' q rate burst v l :=
  h.of_block (by rw [hh]) fun k _ => by rw [hh]
/-- A row's cells, in the walk's words. -/
theorem RefB.entry {w : World} {q : Nat} {rate burst : Int} {v : Value} {l : List Ent} (h : RefB w q rate burst v l) {n : Nat} {x : Ent} (hn : l[n]? = some x) : ∃ g cap, v = .slice (some ⟨g, 0, none⟩) l.length cap ∧ q + 1 ≤ g ∧ g < w.heap.size ∧ n < l.length ∧
    ∀ m y, l[m]? = some y → w.cell? ⟨g, m * 4, none⟩ = some (.string (str y.key)) ∧ w.cell? ⟨g, m * 4 + 1, none⟩ = some (.int .i64 y.left) ∧ w.cell? ⟨g, m * 4 + 2, none⟩ = some (.int .i64 y.at_) ∧ w.cell? ⟨g, m * 4 + 3, none⟩ = some (.int .i64 y.seen) := by
  obtain ⟨hnl, _⟩ := List.getElem?_eq_some_iff.1 hn
  obtain ⟨g, cap, rfl, h1, h2, h3, h4, h5⟩ := h.own.slice1 l.length rfl (by omega)
  refine ⟨g, cap, rfl, h3, h4, hnl, fun m y hm => ?_⟩
  obtain ⟨hml, hme⟩ := List.getElem?_eq_some_iff.1 hm
  have z := h5 m hml
  rw [hme] at z
  exact ⟨z 0 (by decide), z 1 (by decide), z 2 (by decide), z 3 (by decide)⟩
set_option maxRecDepth 100000 in
set_option maxHeartbeats 2000000 in
theorem rat_any {w : World} {q : Nat} {rate burst : Int} {v : Value} {l : List Ent} (h : RefB w q rate burst v l) (k : List UInt8) :
    Calls Tryd.prog 33 #[.pointer (some ⟨q, 0, none⟩), .string (str k)] w fun e w' => w = w' ∧ ((e = .returned (.int .i64 (-1)) ∧ findK l k = none) ∨ ∃ n : Nat, e = .returned (.int .i64 n) ∧ ∃ x, l[n]? = some x ∧ findK l k = some x) := by
  have hc2 := h.c2
  obtain ⟨a, cap, rfl, h1, h2, _⟩ := h.own.slice
  have HR := Lib.hid h
  obtain ⟨L, hL⟩ : ∃ L, l.length = L := ⟨_, rfl⟩
  have HL := Lib.hid hL
  rw [hL] at hc2 h1
  obtain ⟨s, hs⟩ : ∃ s, str k = s := ⟨_, rfl⟩
  rw [hs]
  have HS := Lib.hid hs
  clear h hL hs
  go_enter Tryd.func33, Tryd.ntmps33
  go_wp2
  go_loop [5] (fun iv => ∃ i : Nat, iv = .int .i64 i ∧ i ≤ L ∧ Hid (findK (l.take i) k = none)) (fun iv => L - (intOf iv).toNat)
  case atStart => exact ⟨0, rfl, Nat.zero_le _, rfl⟩
  case round =>
    obtain ⟨i, rfl, hi, HP⟩ := hrel
    by_cases hlt : i < L
    · obtain ⟨x, hx⟩ : ∃ x, l[i]? = some x := ⟨_, List.getElem?_eq_getElem (by rw [HL.out]; exact hlt)⟩
      obtain ⟨g, c, e, _, _, _, hent⟩ := HR.out.entry hx
      simp only [Value.slice.injEq] at e
      obtain ⟨rfl, _, rfl⟩ := e
      have hx0 := (hent i x hx).1
      obtain ⟨t, ht⟩ : ∃ t, str x.key = t := ⟨_, rfl⟩
      rw [ht] at hx0
      have HX := Lib.hid hx
      have HT := Lib.hid ht
      have hq1 : (i : Int) < (L : Int) := by omega
      clear hx ht hent
      by_cases he : t = s
      · have hkey : x.key = k := str_inj (by rw [HT.out, HS.out, he])
        have HKE := Lib.hid hkey
        subst he
        clear hkey
        go_wp2
        go_ret
        refine ⟨rfl, .inr ⟨i, rfl, x, HX.out, ?_⟩⟩
        obtain ⟨hil, hie⟩ := List.getElem?_eq_some_iff.1 HX.out
        have e : l = l.take i ++ l[i] :: l.drop (i + 1) := by rw [← List.drop_eq_getElem_cons hil, List.take_append_drop]
        unfold findK
        rw [e, List.find?_append]
        have hp : (l.take i).find? (fun e => e.key == k) = none := HP.out
        rw [hp, List.find?_cons]
        simp [hie, HKE.out]
      · have hkey : x.key ≠ k := fun e => he (by rw [← HT.out, ← HS.out, e])
        have HKE := Lib.hid hkey
        have hb : (t.toList == s.toList) = false := toList_ne he
        clear hkey
        go_wp2
        go_round
        case rel => exact ⟨i + 1, by go_num, by omega, by
          obtain ⟨hil, hie⟩ := List.getElem?_eq_some_iff.1 HX.out
          show findK _ _ = none
          have hp : (l.take i).find? (fun e => e.key == k) = none := HP.out
          unfold findK
          rw [List.take_succ_eq_append_getElem hil, List.find?_append, hp]
          simp [hie, HKE.out]⟩
        case measure => simp [intOf]; omega
    · obtain rfl : i = L := by omega
      go_wp2
      go_ret
      have h := HP.out
      rw [List.take_of_length_le (by rw [HL.out]; exact Nat.le_refl _)] at h
      exact ⟨rfl, .inl ⟨rfl, h⟩⟩
set_option maxRecDepth 100000 in
set_option maxHeartbeats 2000000 in
theorem rcheck_any {w : World} {q : Nat} {rate burst : Int} {v : Value} {l : List Ent} (h : RefB w q rate burst v l) (k : List UInt8) (now n : Int) :
    Calls Tryd.prog 32 #[.pointer (some ⟨q, 0, none⟩), .string (str k), .int .i64 now, .int .i64 n] w fun e w' => e = .returned (.int .i64 (checkE burst l k now n)) ∧ w = w' := by
  have HA := Lib.hid (rat_any h k)
  have HR := Lib.hid h
  have hc1 := h.c1
  have hc2 := h.c2
  by_cases hb : n < 1 ∨ burst < n ∨ now < 0 ∨ 1000000 < now
  · have e : checkE burst l k now n = 1 := by unfold checkE; rw [if_pos hb]
    rw [e]
    have hb' : n < 1 ∨ (1 ≤ n ∧ burst < n) ∨ (1 ≤ n ∧ n ≤ burst ∧ now < 0) ∨ (1 ≤ n ∧ n ≤ burst ∧ 0 ≤ now ∧ 1000000 < now) := by omega
    clear hb e h
    rcases hb' with b1 | ⟨b1, b2⟩ | ⟨b1, b2, b3⟩ | ⟨b1, b2, b3, b4⟩
    all_goals
      go_enter Tryd.func32, Tryd.ntmps32
      go_wp2
      go_ret
      exact ⟨rfl, rfl⟩
  · obtain ⟨E0, hE0⟩ : ∃ E0, checkE burst l k now n = E0 := ⟨_, rfl⟩
    have hE1 : (if now < seenF l k then (6 : Int) else 0) = E0 := by rw [← hE0]; unfold checkE; rw [if_neg hb]
    rw [hE0]
    have HE1 := Lib.hid hE1
    have b1 : ¬ n < 1 := by omega
    have b2 : ¬ burst < n := by omega
    have b3 : ¬ now < 0 := by omega
    have b4 : ¬ 1000000 < now := by omega
    clear hb h hE0 hE1
    by_cases hs : now < seenF l k
    · obtain ⟨n0, x0, hn0, hf0⟩ : ∃ (n0 : Nat) (x0 : Ent), l[n0]? = some x0 ∧ findK l k = some x0 := by
        cases hf : findK l k with
        | none => unfold seenF at hs; rw [hf] at hs; simp at hs; omega
        | some x =>
          obtain ⟨hm, _⟩ := findK_some hf
          obtain ⟨i, hi, e⟩ := List.getElem_of_mem hm
          exact ⟨i, x, by rw [List.getElem?_eq_getElem hi, e], rfl⟩
      obtain ⟨g, cap, rfl, hg1, hg2, _, hent⟩ := HR.out.entry hn0
      have hs2 : now < x0.seen := by unfold seenF at hs; rw [hf0] at hs; exact hs
      have HF := Lib.hid hf0
      have HEN := Lib.hid hent
      rw [if_pos hs] at HE1
      clear hs hf0 hent hn0
      go_enter Tryd.func32, Tryd.ntmps32
      go_wp2_with (go_at_call 33; (with_reducible refine HA.out.mono ?_); rintro e w1 ⟨rfl, ⟨rfl, hno⟩ | ⟨m, rfl, y, hm, hy⟩⟩; rotate_left; obtain rfl := Option.some.inj (HF.out.symm.trans hy); have hz := (HEN.out m x0 hm).2.2.2; have hml := (List.getElem?_eq_some_iff.1 hm).1; have hmL : (m : Int) < (l.length : Int) := (by omega); have hm0 : (0 : Int) ≤ (m : Int) := (by omega); clear hm hy; rotate_left)
      all_goals first
        | (exfalso; rw [HF.out] at hno; cases hno)
        | (go_ret; rw [← HE1.out]; exact ⟨rfl, rfl⟩)
    · rw [if_neg hs] at HE1
      have HSS := Lib.hid hs
      clear hs
      go_enter Tryd.func32, Tryd.ntmps32
      go_wp2_with (go_at_call 33; (with_reducible refine HA.out.mono ?_); rintro e w1 ⟨rfl, ⟨rfl, hno⟩ | ⟨m, rfl, y, hm, hy⟩⟩; rotate_left; obtain ⟨g, cap, rfl, hg1, hg2, _, hent⟩ := HR.out.entry hm; have hz := (hent m y hm).2.2.2; have hml := (List.getElem?_eq_some_iff.1 hm).1; have hmL : (m : Int) < (l.length : Int) := (by omega); have hm0 : (0 : Int) ≤ (m : Int) := (by omega); have hs3 : ¬ now < y.seen := (by have h := HSS.out; unfold seenF at h; rw [hy] at h; exact h); clear hm hy hent; rotate_left)
      all_goals go_ret
      all_goals rw [← HE1.out]
      all_goals exact ⟨rfl, rfl⟩
end Go.Proofs.YtfgplghjgjnggaaDoor.LimR
