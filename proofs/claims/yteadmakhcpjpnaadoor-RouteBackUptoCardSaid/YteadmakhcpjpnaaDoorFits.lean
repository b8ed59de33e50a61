/-
  Is a route one for a request: package route's fits.
  Conditions: the length of a text.
-/
import Derived.Test.YteadmakhcpjpnaaDoorRoutes
namespace Go.Proofs.YteadmakhcpjpnaaDoor.RouteC
open Go.RowKit Go.Shelf RowsK LineC
set_option linter.unusedVariables false
set_option linter.unusedSimpArgs false

/-- What stands behind a route's path. -/
def restB (r : RT) (path : ByteArray) : ByteArray := ⟨(Lib.trimPrefix path.data.toList r.path.data.toList).toArray⟩
/-- Is a route one for a request? -/
def fitsB (r : RT) (host path : ByteArray) : Bool :=
  (Lib.hasPrefix path.data.toList r.path.data.toList && (r.host.toList.isEmpty || r.host.toList == host.toList)) && ((restB r path).toList.isEmpty || (restB r path).data.toList.head? == some 47 || Lib.hasSuffix r.path.data.toList [47])
theorem c47 (c : UInt8) : ((c.toNat : Int) == 47) = (c == 47) := by
  rw [Bool.eq_iff_iff, beq_iff_eq, beq_iff_eq]
  constructor
  · intro h; exact UInt8.toNat_inj.1 (by show c.toNat = 47; omega)
  · rintro rfl; rfl
/-- A text's first byte. -/
theorem run_first (q : ByteArray) (h : 0 < q.size) (W : World) : ∃ c : UInt8, q.data.toList.head? = some c ∧ (Instr.index 9 (.string q) (.int .i64 0)).run Tryd.prog W = .ok (.int .u8 c.toNat) W := by
  refine ⟨q[0]'h, ?_, ?_⟩
  · obtain ⟨⟨l⟩⟩ := q
    cases l with
    | nil => simp [ByteArray.size] at h
    | cons a l => rfl
  · rw [run_index_string _ _ _ _ _ Tryd.underlying9, dif_pos ⟨by decide, by omega⟩]; rfl
set_option maxRecDepth 100000 in
set_option maxHeartbeats 8000000 in
theorem fits_any (r : RT) (host path : ByteArray) (w : World) (hs : r.path.size ≤ 9223372036854775807) :
    Calls Tryd.prog 18 #[.agg #[.string r.host, .string r.path, .string r.dest], .string host, .string path] w fun e w' => e = .returned (.bool (fitsB r host path)) ∧ Below w.heap.size w w' := by
  have hB := (Below.refl w.heap.size w).alloc (Nat.le_refl _) (.cells #[.string r.host, .string r.path, .string r.dest] 28)
  have HC := Lib.hid (Tryd.strings_CutPrefix path r.path)
  have HS := Lib.hid (fun w => Tryd.strings_HasSuffix r.path ⟨#[47]⟩ w hs)
  change Hid (∀ w, Calls Tryd.prog 33 #[.string r.path, .string ⟨#[47]⟩] w fun e w' => e = .returned (.bool (Lib.hasSuffix r.path.data.toList [47])) ∧ w' = w) at HS
  change Hid (∀ w, Calls Tryd.prog 32 #[.string path, .string r.path] w fun e w' => e = .returned (.tuple #[.string (restB r path), .bool (Lib.hasPrefix path.data.toList r.path.data.toList)]) ∧ w' = w) at HC
  unfold fitsB
  generalize Lib.hasPrefix path.data.toList r.path.data.toList = b1 at *
  generalize Lib.hasSuffix r.path.data.toList [47] = b2 at *
  generalize restB r path = q at *
  have hsz := size_list q
  have hem := emp_list q
  obtain ⟨rh, rp, rt⟩ := r
  simp only at *
  cases b1
  · go_enter Tryd.func18, Tryd.ntmps18
    go_wp2_with (first
      | (go_at_call 32; (with_reducible refine (HC.out _).mono ?_); rintro e wA ⟨rfl, rfl⟩)
      | (go_at_call 33; (with_reducible refine (HS.out _).mono ?_); rintro e wA ⟨rfl, rfl⟩))
    all_goals go_ret
    all_goals exact ⟨by simp, hB⟩
  · rcases e1 : rh.toList.isEmpty with _ | _
    · rcases e2 : (rh.toList == host.toList) with _ | _
      · go_enter Tryd.func18, Tryd.ntmps18
        go_wp2_with (first
          | (go_at_call 32; (with_reducible refine (HC.out _).mono ?_); rintro e wA ⟨rfl, rfl⟩)
          | (go_at_call 33; (with_reducible refine (HS.out _).mono ?_); rintro e wA ⟨rfl, rfl⟩))
        all_goals go_ret
        all_goals exact ⟨by simp, hB⟩
      · rcases e3 : q.toList.isEmpty with _ | _
        · have e4 : q.data.isEmpty = false := by rw [← e3, hem]; simp
          have e5 : 0 < q.size := by
            rcases Nat.eq_zero_or_pos q.size with h | h
            · rw [hem, List.isEmpty_eq_false_iff] at e3
              rw [h] at hsz
              exact absurd (List.eq_nil_of_length_eq_zero hsz.symm) e3
            · exact h
          obtain ⟨c, hc, hrun⟩ := run_first q e5 (w.alloc (.cells #[.string rh, .string rp, .string rt] 28))
          clear e5
          rw [hc]
          clear hc
          have h47 := c47 c
          go_enter Tryd.func18, Tryd.ntmps18
          go_wp2_with (first
            | (go_at_call 32; (with_reducible refine (HC.out _).mono ?_); rintro e wA ⟨rfl, rfl⟩)
            | (go_at_call 33; (with_reducible refine (HS.out _).mono ?_); rintro e wA ⟨rfl, rfl⟩))
          all_goals go_ret
          all_goals exact ⟨by simp [h47, *], hB⟩
        · have e4 : q.data.isEmpty = true := by rw [← e3, hem]; simp
          go_enter Tryd.func18, Tryd.ntmps18
          go_wp2_with (first
            | (go_at_call 32; (with_reducible refine (HC.out _).mono ?_); rintro e wA ⟨rfl, rfl⟩)
            | (go_at_call 33; (with_reducible refine (HS.out _).mono ?_); rintro e wA ⟨rfl, rfl⟩))
          all_goals go_ret
          all_goals exact ⟨by simp, hB⟩
    · rcases e3 : q.toList.isEmpty with _ | _
      · have e4 : q.data.isEmpty = false := by rw [← e3, hem]; simp
        have e5 : 0 < q.size := by
          rcases Nat.eq_zero_or_pos q.size with h | h
          · rw [hem, List.isEmpty_eq_false_iff] at e3
            rw [h] at hsz
            exact absurd (List.eq_nil_of_length_eq_zero hsz.symm) e3
          · exact h
        obtain ⟨c, hc, hrun⟩ := run_first q e5 (w.alloc (.cells #[.string rh, .string rp, .string rt] 28))
        clear e5
        rw [hc]
        clear hc
        have h47 := c47 c
        go_enter Tryd.func18, Tryd.ntmps18
        go_wp2_with (first
          | (go_at_call 32; (with_reducible refine (HC.out _).mono ?_); rintro e wA ⟨rfl, rfl⟩)
          | (go_at_call 33; (with_reducible refine (HS.out _).mono ?_); rintro e wA ⟨rfl, rfl⟩))
        all_goals go_ret
        all_goals exact ⟨by simp [h47, *], hB⟩
      · have e4 : q.data.isEmpty = true := by rw [← e3, hem]; simp
        go_enter Tryd.func18, Tryd.ntmps18
        go_wp2_with (first
          | (go_at_call 32; (with_reducible refine (HC.out _).mono ?_); rintro e wA ⟨rfl, rfl⟩)
          | (go_at_call 33; (with_reducible refine (HS.out _).mono ?_); rintro e wA ⟨rfl, rfl⟩))
        all_goals go_ret
        all_goals exact ⟨by simp, hB⟩
end Go.Proofs.YteadmakhcpjpnaaDoor.RouteC
