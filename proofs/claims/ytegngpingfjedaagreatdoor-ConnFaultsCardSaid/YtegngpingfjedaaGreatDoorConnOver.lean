/-
  A connection that is over: nothing is heard, answered, said.
  Conditions: none.
-/
import Derived.Test.YtegngpingfjedaaGreatDoorConnFeedF
import Derived.Test.YtegngpingfjedaaGreatDoorMaps
namespace Go.Proofs.YtegngpingfjedaaGreatDoor.ConnS
open Go.RowKit ModL ConnR BA WireBig SlicesB FrameC FrameP
set_option linter.unusedVariables false
set_option linter.unusedSimpArgs false

section
variable {base g : Nat} {w : World} {cs : Nat → Value} {inn out : List Int}
theorem feed_over (h : Cn base w g cs inn out) (h11 : cs 11 = .bool true) (v : Value) :
    Calls Tryz.prog 12 #[.pointer (some ⟨g, 0, none⟩), v] w fun e w' => e = .returned (.slice none 0 0) ∧ w = w' := by
  have c11 := h.r.at_ 11 (by decide)
  rw [h11] at c11
  clear h h11
  go_enter Tryz.func12, Tryz.ntmps12
  go_wp2_with fail
  go_ret
  exact ⟨rfl, rfl⟩
theorem may_over (h : Cn base w g cs inn out) (h11 : cs 11 = .bool true) (id kind : Int) (en : Bool) :
    Calls Tryz.prog 55 #[.pointer (some ⟨g, 0, none⟩), .int .i64 id, .int .i64 kind, .bool en] w fun e w' => e = .returned (.tuple #[.int .i64 0, .iface 83 (.int .i64 6)]) ∧ w = w' := by
  have c11 := h.r.at_ 11 (by decide)
  rw [h11] at c11
  clear h h11
  go_enter Tryz.func55, Tryz.ntmps55
  go_wp2_with fail
  go_ret2
  exact ⟨rfl, rfl⟩
theorem answer_over (h : Cn base w g cs inn out) (h11 : cs 11 = .bool true) (id : Int) (v : Value) (en : Bool) :
    Calls Tryz.prog 21 #[.pointer (some ⟨g, 0, none⟩), .int .i64 id, v, .bool en] w fun e w' => e = .returned (.iface 83 (.int .i64 6)) ∧ w = w' := by
  have HM := Lib.hid (fun k => may_over h h11 id k en)
  clear h h11
  go_enter Tryz.func21, Tryz.ntmps21
  go_wp2_with (go_at_call 55; refine (HM.out _).mono ?_; rintro e w1 ⟨rfl, rfl⟩)
  go_ret
  exact ⟨rfl, rfl⟩
theorem send_over (h : Cn base w g cs inn out) (h11 : cs 11 = .bool true) (id : Int) (v : Value) (en : Bool) :
    Calls Tryz.prog 22 #[.pointer (some ⟨g, 0, none⟩), .int .i64 id, v, .bool en] w fun e w' => e = .returned (.iface 83 (.int .i64 6)) ∧ w = w' := by
  have HM := Lib.hid (fun k => may_over h h11 id k en)
  clear h h11
  go_enter Tryz.func22, Tryz.ntmps22
  go_wp2_with (go_at_call 55; refine (HM.out _).mono ?_; rintro e w1 ⟨rfl, rfl⟩)
  go_ret
  exact ⟨rfl, rfl⟩
theorem stop_over (h : Cn base w g cs inn out) (h11 : cs 11 = .bool true) (id code : Int) :
    Calls Tryz.prog 27 #[.pointer (some ⟨g, 0, none⟩), .int .i64 id, .int .i64 code] w fun e w' => e = .returned (.iface 83 (.int .i64 6)) ∧ w = w' := by
  have HM := Lib.hid (fun k => may_over h h11 id k false)
  have c11 := h.r.at_ 11 (by decide)
  rw [h11] at c11
  clear h h11
  go_enter Tryz.func27, Tryz.ntmps27
  go_wp2_with (go_at_call 55; refine (HM.out _).mono ?_; rintro e w1 ⟨rfl, rfl⟩)
  go_ret
  exact ⟨rfl, rfl⟩
theorem bye_over (h : Cn base w g cs inn out) (h11 : cs 11 = .bool true) (code : Int) :
    Calls Tryz.prog 23 #[.pointer (some ⟨g, 0, none⟩), .int .i64 code] w fun e w' => e = .returned (.iface 83 (.int .i64 6)) ∧ w = w' := by
  have c11 := h.r.at_ 11 (by decide)
  rw [h11] at c11
  clear h h11
  go_enter Tryz.func23, Tryz.ntmps23
  go_wp2_with fail
  go_ret
  exact ⟨rfl, rfl⟩
theorem lawC : Maps.Keyed Tryz.prog 3 := Maps.int_keyed Tryz.underlying3
theorem zeroC (w : World) : (zeroValue 104).run Tryz.prog w = .ok (.pointer none) w := by kernel_rfl
theorem used_over (h : Cn base w g cs inn out) (h11 : cs 11 = .bool true) (m : Nat) (h2 : cs 2 = .map (some m)) (l : MapsL.AL) (hM : MapsL.MapIs w Tryz.prog 3 m l) (hnone : MapsL.find l (.int .i64 1) = none) (n : Int) :
    Calls Tryz.prog 15 #[.pointer (some ⟨g, 0, none⟩), .int .i64 1, .int .i64 n] w fun e w' => e = .returned (.iface 83 (.int .i64 6)) ∧ w = w' := by
  have c11 := h.r.at_ 11 (by decide)
  have c2 := h.r.at_ 2 (by decide)
  rw [h11] at c11
  rw [h2] at c2
  have HKEY := Lib.hid (Maps.keyOf_int_mk (a := 1) Tryz.underlying3 (WalkArith.wf_i64 ⟨by decide, by decide⟩))
  have HM := Lib.hid hM
  have HN := Lib.hid hnone
  clear h h11 h2 hM hnone
  go_enter Tryz.func15, Tryz.ntmps15
  go_wp2_with (at_lookup; refine MapsL.wpList_look rfl _ _ 95 rfl 3 104 lawC Tryz.underlying95 _ (zeroC _) m l rfl HM.out _ _ rfl HKEY.out ?_; rw [HN.out])
  go_ret
  exact ⟨rfl, rfl⟩
end
end Go.Proofs.YtegngpingfjedaaGreatDoor.ConnS
