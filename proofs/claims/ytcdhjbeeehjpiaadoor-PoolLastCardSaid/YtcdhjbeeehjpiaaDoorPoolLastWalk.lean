/-
  The walk of the law PoolLast: for every times it returns true and writes nothing that was there.
  Conditions: none.
-/
import Derived.Test.YtcdhjbeeehjpiaaDoorPoolSteps
import Derived.Test.YtcdhjbeeehjpiaaDoorArgs
import Derived.Deep.CutBlock
namespace Go.Proofs.YtcdhjbeeehjpiaaDoor.WalkPoolLast
open Go.RowKit MapsL ModL RowsK RowsM Back LineC PoolC
set_option linter.unusedSimpArgs false
set_option linter.unusedVariables false

theorem tok_x : tokL (⟨#[120]⟩ : ByteArray).data.toList = true := by decide
theorem tok_y : tokL (⟨#[121]⟩ : ByteArray).data.toList = true := by decide
theorem to_self (i a : Int) (t : ByteArray) : isTo t ⟨i, a, t⟩ = true := by simp [isTo]
theorem not_y (i a : Int) : isTo ⟨#[121]⟩ ⟨i, a, ⟨#[120]⟩⟩ = false := by
  have e : ((⟨#[120]⟩ : ByteArray).toList == (⟨#[121]⟩ : ByteArray).toList) = false := by kernel_rfl
  exact e
theorem filt_len (p : Link → Bool) : ∀ L : List Link, (L.filter p).length + (L.filter fun x => !p x).length = L.length
  | [] => rfl
  | x :: L => by
    have := filt_len p L
    rw [List.filter_cons, List.filter_cons]
    cases p x <;> simp <;> omega
theorem filt_two (p : Link → Bool) (a b : Link) : ([a, b].filter p).length = (if p a then 1 else 0) + (if p b then 1 else 0) := by
  cases h1 : p a <;> cases h2 : p b <;> simp [h1, h2]
/-- The second tick, and who is left. -/
theorem tick_two {w W : World} {b m : Nat} {last now : Int} {B : List (Int × ByteArray)} {L : List Link} (h : PS w W b m 8 last now B L) (t old : Int) (k : Nat) (hk : (L.filter (goneB t old)).length = k) (h2 : L.length = 2) (hn : 0 ≤ t ∧ t ≤ 1000000) (ho : 0 ≤ old ∧ old ≤ 1000000) (hl : now ≤ t) (h0 : 0 ≤ now) (hx : ∀ x ∈ L, (0 ≤ x.at_ ∧ x.at_ ≤ 1000000) ∧ isTo ⟨#[120]⟩ x = true) :
    Calls Tryd.prog 14 #[.pointer (some ⟨b, 0, none⟩), .int .i64 t, .int .i64 old] W fun e w' => ∃ ga gc L', e = .returned (.tuple #[.slice ga k gc, .nilIface]) ∧ PS w w' b m 8 last t B L' ∧ L'.length = 2 - k ∧ ∀ x ∈ L', isTo ⟨#[120]⟩ x = true := by
  refine (tick_ps h t old hn ho hl h0 (by omega) (fun x h => (hx x h).1)).mono ?_
  rintro e w' ⟨ga, gn, gc, rfl, hO, hp⟩
  have e1 := own_len hO
  rw [List.length_map, goneL_len, hk] at e1
  subst e1
  refine ⟨ga, gc, _, rfl, hp, by have := filt_len (goneB t old) L; omega, fun x h => (hx x (List.mem_filter.1 h).1).2⟩
theorem idle_two {w W : World} {b m : Nat} {last now : Int} {B : List (Int × ByteArray)} {L : List Link} (h : PS w W b m 8 last now B L) (k : Nat) (h2 : L.length = k) (hk : k ≤ 2) (hx : ∀ x ∈ L, isTo ⟨#[120]⟩ x = true) :
    Calls Tryd.prog 13 #[.pointer (some ⟨b, 0, none⟩), .string ⟨#[120]⟩] W fun e w' => e = .returned (.int .i64 (k : Nat)) ∧ Below w.heap.size w w' := by
  refine (idle_ps h ⟨#[120]⟩ (by omega)).mono ?_
  rintro e w' ⟨rfl, hp⟩
  rw [List.filter_eq_self.2 hx, h2]
  exact ⟨rfl, hp.base⟩
set_option maxRecDepth 100000 in
set_option maxHeartbeats 8000000 in
theorem walk (now old later : Int) (w : World) (b1 : Args.I64 now) (b2 : Args.I64 old) (b3 : Args.I64 later) :
    Calls Tryd.prog 4 #[.int .i64 now, .int .i64 old, .int .i64 later] w fun e w' => e = .returned (.bool true) ∧ Below w.heap.size w w' := by
  obtain ⟨a1, a2⟩ := b1
  obtain ⟨a3, a4⟩ := b2
  obtain ⟨a5, a6⟩ := b3
  have HI : Hid (∀ W, PS w W (w.heap.size + 1) w.heap.size 8 3 0 [(2, ⟨#[120]⟩)] [⟨1, 0, ⟨#[120]⟩⟩] → Calls Tryd.prog 13 #[.pointer (some ⟨w.heap.size + 1, 0, none⟩), .string ⟨#[121]⟩] W fun e w' => e = .returned (.int .i64 0) ∧ PS w w' (w.heap.size + 1) w.heap.size 8 3 0 [(2, ⟨#[120]⟩)] [⟨1, 0, ⟨#[120]⟩⟩]) := fun W h =>
    (idle_ps h ⟨#[121]⟩ (by simp)).mono (fun e w' ⟨he, hp⟩ => ⟨he.trans (by rw [List.filter_cons, not_y]; rfl), hp⟩)
  go_enter Tryd.func4, Tryd.ntmps4
  go_upto_region 13 with (first
    | (go_at_call 8; (with_reducible refine (new_ps (w0 := w) (Below.refl _ _) (by omega)).mono ?_); rintro e w1 ⟨rfl, hp⟩; have H1 := Lib.hid hp; clear hp)
    | (go_at_call 9; (with_reducible refine (take_new_ps H1.out _ tok_x (by simp) (by simp) (by omega) (by omega) (by simp)).mono ?_); rintro e w2 ⟨rfl, hp⟩; have H2 : Hid (PS w w2 (w.heap.size + 1) w.heap.size 8 1 0 [(1, ⟨#[120]⟩)] []) := hp; clear hp)
    | (go_at_call 9; (with_reducible refine (take_new_ps H2.out _ tok_x (by simp) (by simp) (by omega) (by omega) (by simp)).mono ?_); rintro e w3 ⟨rfl, hp⟩; have H3 : Hid (PS w w3 (w.heap.size + 1) w.heap.size 8 2 0 [(1, ⟨#[120]⟩), (2, ⟨#[120]⟩)] []) := hp; clear hp)
    | (go_at_call 9; (with_reducible refine (take_new_ps H3.out _ tok_y (by simp) (by simp) (by omega) (by omega) (by simp)).mono ?_); rintro e w4 ⟨rfl, hp⟩; have H4 : Hid (PS w w4 (w.heap.size + 1) w.heap.size 8 3 0 [(1, ⟨#[120]⟩), (2, ⟨#[120]⟩), (3, ⟨#[121]⟩)] []) := hp; clear hp)
    | (go_at_call 11; (with_reducible refine (back_ps H4.out _ (by omega) ⟨#[120]⟩ rfl true (by simp)).mono ?_); rintro e w5 ⟨rfl, hp⟩; have H5 : Hid (PS w w5 (w.heap.size + 1) w.heap.size 8 3 0 [(2, ⟨#[120]⟩), (3, ⟨#[121]⟩)] [⟨1, 0, ⟨#[120]⟩⟩]) := hp; clear hp)
    | (go_at_call 11; (with_reducible refine (back_ps H5.out _ (by omega) ⟨#[120]⟩ rfl true (by simp)).mono ?_); rintro e w6 ⟨rfl, hp⟩; have H6 : Hid (PS w w6 (w.heap.size + 1) w.heap.size 8 3 0 [(3, ⟨#[121]⟩)] [⟨1, 0, ⟨#[120]⟩⟩, ⟨2, 0, ⟨#[120]⟩⟩]) := hp; clear hp)
    | (go_at_call 11; (with_reducible refine (back_ps H6.out _ (by omega) ⟨#[121]⟩ rfl false (by simp)).mono ?_); rintro e w7 ⟨rfl, hp⟩; have H7 : Hid (PS w w7 (w.heap.size + 1) w.heap.size 8 3 0 [] [⟨1, 0, ⟨#[120]⟩⟩, ⟨2, 0, ⟨#[120]⟩⟩]) := hp; clear hp)
    | (go_at_call 9; (with_reducible refine (take_hit_ps H7.out _ tok_x 1 (by simp) (to_self _ _ _) (by simp; omega) (by simp) (by simp) (by omega) (by omega) (by simp)).mono ?_); rintro e w8 ⟨rfl, hp⟩; have H8 : Hid (PS w w8 (w.heap.size + 1) w.heap.size 8 3 0 [(2, ⟨#[120]⟩)] [⟨1, 0, ⟨#[120]⟩⟩]) := hp; clear hp)
    | (go_at_call 13; (with_reducible refine (HI.out _ H8.out).mono ?_); rintro e w9 ⟨rfl, hp⟩; have H9 := Lib.hid hp; clear hp))
  by_cases hin : (0 ≤ now ∧ now ≤ 100000) ∧ (0 ≤ later ∧ later ≤ 100000) ∧ (0 ≤ old ∧ old ≤ 100000)
  · obtain ⟨⟨c1, c2⟩, ⟨c3, c4⟩, c5, c6⟩ := hin
    have hxx : ∀ x ∈ ([⟨1, 0, ⟨#[120]⟩⟩, ⟨2, now, ⟨#[120]⟩⟩] : List Link), (0 ≤ x.at_ ∧ x.at_ ≤ 1000000) ∧ isTo ⟨#[120]⟩ x = true := by
      intro x hx
      rcases List.mem_cons.1 hx with rfl | hx
      · exact ⟨⟨by simp, by simp⟩, to_self _ _ _⟩
      · obtain rfl := List.mem_singleton.1 hx
        exact ⟨⟨by show 0 ≤ now; omega, by show now ≤ 1000000; omega⟩, to_self _ _ _⟩
    have HT1 : Hid (∀ W, PS w W (w.heap.size + 1) w.heap.size 8 3 0 [(2, ⟨#[120]⟩)] [⟨1, 0, ⟨#[120]⟩⟩] → Calls Tryd.prog 14 #[.pointer (some ⟨w.heap.size + 1, 0, none⟩), .int .i64 now, .int .i64 100000] W fun e w' => ∃ ga gn gc, e = .returned (.tuple #[.slice ga gn gc, .nilIface]) ∧ PS w w' (w.heap.size + 1) w.heap.size 8 3 now [(2, ⟨#[120]⟩)] [⟨1, 0, ⟨#[120]⟩⟩]) := fun W h =>
      (tick_ps h now 100000 ⟨by omega, by omega⟩ (by omega) (by omega) (by omega) (by simp) (by simp)).mono (fun e w' ⟨ga, gn, gc, he, _, hp⟩ => ⟨ga, gn, gc, he, by
        have e1 : goneB now 100000 ⟨1, 0, ⟨#[120]⟩⟩ = false := decide_eq_false (by show ¬ 100000 < now - 0; omega)
        rw [List.filter_cons, e1] at hp
        exact hp⟩)
    clear H1 H2 H3 H4 H5 H6 H7 H8 HI
    by_cases d1 : old < now + later
    · by_cases d2 : old < later
      · have g1 : old < now + later - 0 := by omega
        have g2 : old < now + later - now := by omega
        have q1 : goneB (now + later) old ⟨1, 0, ⟨#[120]⟩⟩ = true := decide_eq_true g1
        have q2 : goneB (now + later) old ⟨2, now, ⟨#[120]⟩⟩ = true := decide_eq_true g2
        have HT2 : Hid (∀ W, PS w W (w.heap.size + 1) w.heap.size 8 3 now [] [⟨1, 0, ⟨#[120]⟩⟩, ⟨2, now, ⟨#[120]⟩⟩] → Calls Tryd.prog 14 #[.pointer (some ⟨w.heap.size + 1, 0, none⟩), .int .i64 (now + later), .int .i64 old] W fun e w' => ∃ ga gc L', e = .returned (.tuple #[.slice ga 2 gc, .nilIface]) ∧ PS w w' (w.heap.size + 1) w.heap.size 8 3 (now + later) [] L' ∧ L'.length = 2 - 2 ∧ ∀ x ∈ L', isTo ⟨#[120]⟩ x = true) := fun W h =>
          tick_two h (now + later) old 2 (by rw [filt_two, q1, q2]; rfl) rfl ⟨by omega, by omega⟩ ⟨by omega, by omega⟩ (by omega) (by omega) hxx
        clear g1 g2 q1 q2
        go_wp2_with (first
          | (go_at_call 14; (with_reducible refine (HT1.out _ H9.out).mono ?_); rintro e w10 ⟨ga, gn, gc, rfl, hp⟩; have H10 := Lib.hid hp; clear hp)
          | (go_at_call 11; (with_reducible refine (back_ps H10.out _ (by omega) ⟨#[120]⟩ rfl true (by simp)).mono ?_); rintro e w11 ⟨rfl, hp⟩; have H11 : Hid (PS w w11 (w.heap.size + 1) w.heap.size 8 3 now [] [⟨1, 0, ⟨#[120]⟩⟩, ⟨2, now, ⟨#[120]⟩⟩]) := hp; clear hp)
          | (go_at_call 14; (with_reducible refine (HT2.out _ H11.out).mono ?_); rintro e w12 ⟨ga2, gc2, L2, rfl, hp, hl2, hx2⟩; have H12 := Lib.hid (And.intro hp (And.intro hl2 hx2)); clear hp hl2 hx2)
          | (go_at_call 13; (with_reducible refine (idle_two H12.out.1 _ H12.out.2.1 (by decide) H12.out.2.2).mono ?_); rintro e w13 ⟨rfl, hB⟩; have HB := Lib.hid hB; clear hB))
        go_ret
        exact ⟨rfl, HB.out⟩
      · have g1 : old < now + later - 0 := by omega
        have g2 : ¬ old < now + later - now := by omega
        have q1 : goneB (now + later) old ⟨1, 0, ⟨#[120]⟩⟩ = true := decide_eq_true g1
        have q2 : goneB (now + later) old ⟨2, now, ⟨#[120]⟩⟩ = false := decide_eq_false g2
        have HT2 : Hid (∀ W, PS w W (w.heap.size + 1) w.heap.size 8 3 now [] [⟨1, 0, ⟨#[120]⟩⟩, ⟨2, now, ⟨#[120]⟩⟩] → Calls Tryd.prog 14 #[.pointer (some ⟨w.heap.size + 1, 0, none⟩), .int .i64 (now + later), .int .i64 old] W fun e w' => ∃ ga gc L', e = .returned (.tuple #[.slice ga 1 gc, .nilIface]) ∧ PS w w' (w.heap.size + 1) w.heap.size 8 3 (now + later) [] L' ∧ L'.length = 2 - 1 ∧ ∀ x ∈ L', isTo ⟨#[120]⟩ x = true) := fun W h =>
          tick_two h (now + later) old 1 (by rw [filt_two, q1, q2]; rfl) rfl ⟨by omega, by omega⟩ ⟨by omega, by omega⟩ (by omega) (by omega) hxx
        clear g1 g2 q1 q2
        go_wp2_with (first
          | (go_at_call 14; (with_reducible refine (HT1.out _ H9.out).mono ?_); rintro e w10 ⟨ga, gn, gc, rfl, hp⟩; have H10 := Lib.hid hp; clear hp)
          | (go_at_call 11; (with_reducible refine (back_ps H10.out _ (by omega) ⟨#[120]⟩ rfl true (by simp)).mono ?_); rintro e w11 ⟨rfl, hp⟩; have H11 : Hid (PS w w11 (w.heap.size + 1) w.heap.size 8 3 now [] [⟨1, 0, ⟨#[120]⟩⟩, ⟨2, now, ⟨#[120]⟩⟩]) := hp; clear hp)
          | (go_at_call 14; (with_reducible refine (HT2.out _ H11.out).mono ?_); rintro e w12 ⟨ga2, gc2, L2, rfl, hp, hl2, hx2⟩; have H12 := Lib.hid (And.intro hp (And.intro hl2 hx2)); clear hp hl2 hx2)
          | (go_at_call 13; (with_reducible refine (idle_two H12.out.1 _ H12.out.2.1 (by decide) H12.out.2.2).mono ?_); rintro e w13 ⟨rfl, hB⟩; have HB := Lib.hid hB; clear hB))
        go_ret
        exact ⟨rfl, HB.out⟩
    · have d2 : ¬ old < later := by omega
      have g1 : ¬ old < now + later - 0 := by omega
      have g2 : ¬ old < now + later - now := by omega
      have q1 : goneB (now + later) old ⟨1, 0, ⟨#[120]⟩⟩ = false := decide_eq_false g1
      have q2 : goneB (now + later) old ⟨2, now, ⟨#[120]⟩⟩ = false := decide_eq_false g2
      have HT2 : Hid (∀ W, PS w W (w.heap.size + 1) w.heap.size 8 3 now [] [⟨1, 0, ⟨#[120]⟩⟩, ⟨2, now, ⟨#[120]⟩⟩] → Calls Tryd.prog 14 #[.pointer (some ⟨w.heap.size + 1, 0, none⟩), .int .i64 (now + later), .int .i64 old] W fun e w' => ∃ ga gc L', e = .returned (.tuple #[.slice ga 0 gc, .nilIface]) ∧ PS w w' (w.heap.size + 1) w.heap.size 8 3 (now + later) [] L' ∧ L'.length = 2 - 0 ∧ ∀ x ∈ L', isTo ⟨#[120]⟩ x = true) := fun W h =>
        tick_two h (now + later) old 0 (by rw [filt_two, q1, q2]; rfl) rfl ⟨by omega, by omega⟩ ⟨by omega, by omega⟩ (by omega) (by omega) hxx
      clear g1 g2 q1 q2
      go_wp2_with (first
        | (go_at_call 14; (with_reducible refine (HT1.out _ H9.out).mono ?_); rintro e w10 ⟨ga, gn, gc, rfl, hp⟩; have H10 := Lib.hid hp; clear hp)
        | (go_at_call 11; (with_reducible refine (back_ps H10.out _ (by omega) ⟨#[120]⟩ rfl true (by simp)).mono ?_); rintro e w11 ⟨rfl, hp⟩; have H11 : Hid (PS w w11 (w.heap.size + 1) w.heap.size 8 3 now [] [⟨1, 0, ⟨#[120]⟩⟩, ⟨2, now, ⟨#[120]⟩⟩]) := hp; clear hp)
        | (go_at_call 14; (with_reducible refine (HT2.out _ H11.out).mono ?_); rintro e w12 ⟨ga2, gc2, L2, rfl, hp, hl2, hx2⟩; have H12 := Lib.hid (And.intro hp (And.intro hl2 hx2)); clear hp hl2 hx2)
        | (go_at_call 13; (with_reducible refine (idle_two H12.out.1 _ H12.out.2.1 (by decide) H12.out.2.2).mono ?_); rintro e w13 ⟨rfl, hB⟩; have HB := Lib.hid hB; clear hB))
      go_ret
      exact ⟨rfl, HB.out⟩
  · have hout : now < 0 ∨ 100000 < now ∨ later < 0 ∨ 100000 < later ∨ old < 0 ∨ 100000 < old := by omega
    have HB := Lib.hid H9.out.base
    clear hin H1 H2 H3 H4 H5 H6 H7 H8 H9 HI
    by_cases t1 : now < 0
    · go_wp2_with fail
      go_ret
      exact ⟨rfl, HB.out⟩
    by_cases t2 : 100000 < now
    · go_wp2_with fail
      go_ret
      exact ⟨rfl, HB.out⟩
    by_cases t3 : later < 0
    · go_wp2_with fail
      go_ret
      exact ⟨rfl, HB.out⟩
    by_cases t4 : 100000 < later
    · go_wp2_with fail
      go_ret
      exact ⟨rfl, HB.out⟩
    by_cases t5 : old < 0
    · go_wp2_with fail
      go_ret
      exact ⟨rfl, HB.out⟩
    · have t6 : 100000 < old := by omega
      go_wp2_with fail
      go_ret
      exact ⟨rfl, HB.out⟩
end Go.Proofs.YtcdhjbeeehjpiaaDoor.WalkPoolLast
