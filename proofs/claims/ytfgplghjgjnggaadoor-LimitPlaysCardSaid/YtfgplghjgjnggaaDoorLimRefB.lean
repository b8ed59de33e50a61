/-
  The reference's limit: left.
  Conditions: where its blocks lie; the bounds.
-/
import Derived.Test.YtfgplghjgjnggaaDoorLimRefA
namespace Go.Proofs.YtfgplghjgjnggaaDoor.LimR
open Go.RowKit MapsL ModL RowsK RowsM LimitC
set_option linter.unusedSimpArgs false
set_option linter.unusedVariables false

/-- What is known of an entry, at a time. -/
def Fine (burst now : Int) (l : List Ent) : Prop := ∀ e ∈ l, 0 ≤ e.left ∧ e.left ≤ burst ∧ 0 ≤ e.at_ ∧ e.at_ ≤ e.seen ∧ e.seen ≤ 1000000
set_option maxRecDepth 100000 in
set_option maxHeartbeats 2000000 in
theorem rleft_any {w : World} {q : Nat} {rate burst : Int} {v : Value} {l : List Ent} (h : RefB w q rate burst v l) (k : List UInt8) (now : Int) (hr : 1 ≤ rate ∧ rate ≤ 1000000) (hb : 1 ≤ burst ∧ burst ≤ 1000000) (hf : Fine burst now l) (hn : 0 ≤ now ∧ now ≤ 1000000) (hs : seenF l k ≤ now) :
    Calls Tryd.prog 34 #[.pointer (some ⟨q, 0, none⟩), .string (str k), .int .i64 now] w fun e w' => e = .returned (.int .i64 (leftF rate burst l k now)) ∧ ∃ nq, w.drewN nq = w' := by
  have HA := Lib.hid (rat_any h k)
  have HR := Lib.hid h
  have hc0 := h.c0
  have hc1 := h.c1
  have hc2 := h.c2
  cases hfk : findK l k with
  | none =>
    have e : leftF rate burst l k now = burst := by unfold leftF; rw [hfk]
    have HF := Lib.hid hfk
    rw [e]
    clear h e hfk
    go_enter Tryd.func34, Tryd.ntmps34
    go_wp2_with (go_at_call 33; (with_reducible refine HA.out.mono ?_); rintro e w1 ⟨rfl, ⟨rfl, hno⟩ | ⟨m, rfl, y, hm, hy⟩⟩)
    all_goals first
      | (exfalso; rw [HF.out] at hy; cases hy)
      | (go_ret; exact ⟨rfl, 0, rfl⟩)
  | some x =>
    have e : leftF rate burst l k now = min burst (x.left + rate * (now - x.at_)) := by unfold leftF; rw [hfk]
    have hx1 := hf x (findK_some hfk).1
    have hx2 : x.seen ≤ now := by unfold seenF at hs; rw [hfk] at hs; exact hs
    rw [e]
    obtain ⟨n0, hn0⟩ : ∃ n0 : Nat, l[n0]? = some x := by
      obtain ⟨i, hi, e⟩ := List.getElem_of_mem (findK_some hfk).1
      exact ⟨i, by rw [List.getElem?_eq_getElem hi, e]⟩
    obtain ⟨g, cap, rfl, hg1, hg2, _, hent⟩ := h.entry hn0
    have HEN := Lib.hid hent
    have HF := Lib.hid hfk
    obtain ⟨lf, hlf⟩ : ∃ z, x.left = z := ⟨_, rfl⟩
    obtain ⟨a_, ha⟩ : ∃ z, x.at_ = z := ⟨_, rfl⟩
    have HLA := Lib.hid (And.intro hlf ha)
    rw [hlf, ha] at hx1 ⊢
    obtain ⟨D, hD⟩ : ∃ D, now - a_ = D := ⟨_, rfl⟩
    have hD0 : 0 ≤ D ∧ D ≤ 1000000 := by omega
    obtain ⟨T, hT⟩ : ∃ T, rate * D = T := ⟨_, rfl⟩
    have hT0 : 0 ≤ T := by rw [← hT]; exact Int.mul_nonneg (by omega) hD0.1
    have hT1 : T ≤ 1000000000000 := by
      rw [← hT]
      have h1 := Int.mul_le_mul hr.2 hD0.2 hD0.1 (by omega : (0 : Int) ≤ 1000000)
      omega
    have e1 : IntKind.i64.wrap (now - a_) = D := by rw [IntWalk.i64_in _ (by omega), hD]
    have e2 : IntKind.i64.wrap (rate * D) = T := by rw [hT, IntWalk.i64_in _ (by omega)]
    have e3 : IntKind.i64.wrap (T + lf) = T + lf := IntWalk.i64_in _ (by omega)
    have e4 : min burst (lf + rate * D) = min burst (T + lf) := by rw [hT, Int.add_comm]
    rw [hD, e4]
    obtain ⟨l1, l2, _, _, _⟩ := hx1
    clear h e hfk hf hs hent hn0 hlf ha hT hD e4
    by_cases hc : burst < T + lf
    · have em : min burst (T + lf) = burst := by omega
      rw [em]
      go_enter Tryd.func34, Tryd.ntmps34
      go_upto_region 4 with (go_at_call 33; (with_reducible refine HA.out.mono ?_); rintro e w1 ⟨rfl, ⟨rfl, hno⟩ | ⟨m, rfl, y, hm, hy⟩⟩; exact absurd (HF.out.symm.trans hno) (by simp); obtain rfl := Option.some.inj (HF.out.symm.trans hy); have hz2 := (HEN.out m x hm).2.2.1; have hz1 := (HEN.out m x hm).2.1; rw [HLA.out.1] at hz1; rw [HLA.out.2] at hz2; have hml := (List.getElem?_eq_some_iff.1 hm).1; have hmL : (m : Int) < (l.length : Int) := (by omega); have hm0 : (0 : Int) ≤ (m : Int) := (by omega); clear hm hy)
      go_quiet (fail)
      go_wp2
      go_ret
      exact ⟨rfl, _, rfl⟩
    · have em : min burst (T + lf) = T + lf := by omega
      rw [em]
      go_enter Tryd.func34, Tryd.ntmps34
      go_upto_region 4 with (go_at_call 33; (with_reducible refine HA.out.mono ?_); rintro e w1 ⟨rfl, ⟨rfl, hno⟩ | ⟨m, rfl, y, hm, hy⟩⟩; exact absurd (HF.out.symm.trans hno) (by simp); obtain rfl := Option.some.inj (HF.out.symm.trans hy); have hz2 := (HEN.out m x hm).2.2.1; have hz1 := (HEN.out m x hm).2.1; rw [HLA.out.1] at hz1; rw [HLA.out.2] at hz2; have hml := (List.getElem?_eq_some_iff.1 hm).1; have hmL : (m : Int) < (l.length : Int) := (by omega); have hm0 : (0 : Int) ≤ (m : Int) := (by omega); clear hm hy)
      go_quiet (fail)
      go_wp2
      go_ret
      exact ⟨rfl, _, rfl⟩
end Go.Proofs.YtfgplghjgjnggaaDoor.LimR
