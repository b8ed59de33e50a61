/-
  The law's own count over this seat's translation: how often a path stands there.
  Conditions: the captured slice's cell; the slice reads as entries.
-/
import Derived.Test.YtcpkikillmmjcaaGreatDoorLogTopP
import Derived.Test.YtcpkikillmmjcaaGreatDoorLogS
namespace Go.Proofs.YtcpkikillmmjcaaGreatDoor.LogC
open Go.RowKit LogP LineC RowsK Args LogTopP
set_option linter.unusedVariables false
set_option linter.unusedSimpArgs false

theorem cell_back {w w' : World} {a : Option Addr} {n c : Nat} {l : List En} {B : Nat} (h : At encE w (.slice a n c) l) (hB : Below w.heap.size w w') : At encE w' (.slice a n c) l := by
  obtain ⟨a', cap, e, h1, h2, h3, h4⟩ := h
  refine ⟨a', cap, e, h1, h2, h3, fun i hi => ?_⟩
  obtain ⟨b, off, e1, hb, hc⟩ := h4 i hi
  exact ⟨b, off, e1, Nat.lt_of_lt_of_le hb hB.size, fun j hj => (hB.cell (p := ⟨b, _, none⟩) hb).trans (hc j hj)⟩
set_option maxRecDepth 100000 in
set_option maxHeartbeats 4000000 in
theorem count_any (l : List En) (p : ByteArray) (a : Option Addr) (n c g : Nat) (w : World) (h : At encE w (.slice a n c) l) (hl : n ≤ 1000) (hc : w.cell? ⟨g, 0, none⟩ = some (.slice a n c)) :
    Calls Tryz.prog 16 #[.string p, .pointer (some ⟨g, 0, none⟩)] w fun e w' => e = .returned (.int .i64 (cnt l p : Nat)) ∧ w = w' := by
  have HA := Lib.hid h
  have hn := (at_cells h).1
  have HN := Lib.hid hn
  clear h hn
  go_enter Tryz.func16, Tryz.ntmps16
  go_wp2_with fail
  go_loop [4, 5] (fun v4 i => ∃ k x : Nat, i = .int .i64 (k : Int) ∧ k ≤ n ∧ v4 = .int .i64 (x : Int) ∧ x ≤ 1000 ∧ Hid (x = cnt (l.take k) p)) (fun _ i => n - (intOf i).toNat)
  case atStart => exact ⟨0, 0, rfl, by omega, rfl, by omega, rfl⟩
  case round =>
    obtain ⟨k, x, rfl, hk, rfl, hx, HR⟩ := hrel
    have HX := HR
    clear HR
    by_cases hlt : k < n
    · have hlt2 : (k : Int) < (n : Int) := by omega
      have hk0 : (0 : Int) ≤ (k : Int) := by omega
      have hkl : k < l.length := by rw [← HN.out]; exact hlt
      obtain ⟨b, off, rfl, hb, c0, c1, c2, c3, c4, c5⟩ := (at_cells HA.out).2.2 k hkl
      have hsn : l.take (k + 1) = l.take k ++ [l[k]] := List.take_succ_eq_append_getElem hkl
      obtain ⟨en, hen⟩ : ∃ en, l[k] = en := ⟨_, rfl⟩
      rw [hen] at c5 hsn
      have hcs : cnt (l.take (k + 1)) p = cnt (l.take k) p + if en.path = p then 1 else 0 := by rw [hsn, cnt_snoc]
      have hcl := cnt_le (l.take (k + 1)) p
      rw [List.length_take] at hcl
      rw [← HX.out] at hcs
      have HCS := Lib.hid hcs
      have HCL := Lib.hid hcl
      clear c0 c1 c2 c3 c4 hen hsn hcs hcl
      by_cases hp : en.path = p
      · subst hp
        have hx9 : x ≤ 999 := by have h1 := HCS.out; have h2 := HCL.out; rw [if_pos rfl] at h1; omega
        go_wp2_with fail
        go_round
        case rel => exact ⟨k + 1, x + 1, by go_num, by omega, by go_num, by omega, by have := HCS.out; rw [if_pos rfl] at this; exact this.symm⟩
        case measure => simp [intOf]; omega
      · have hq : (en.path.toList == p.toList) = false := by rw [beq_eq_false_iff_ne, ByteArray.toList_eq, ByteArray.toList_eq]; exact fun e => hp (by cases en; cases p; simp only at e; rename_i a b; exact congrArg ByteArray.mk (Array.toList_inj.1 e))
        have HP := Lib.hid hp
        clear hp
        go_wp2_with fail
        go_round
        case rel => exact ⟨k + 1, x, by go_num, by omega, rfl, by omega, by have := HCS.out; rw [if_neg HP.out] at this; exact this.symm⟩
        case measure => simp [intOf]; omega
    · obtain rfl : k = n := by omega
      have HE : Hid (x = cnt l p) := by have := HX.out; rw [HN.out, List.take_length] at this; exact this
      go_wp2_with fail
      go_ret
      exact ⟨by rw [← HE.out]; rfl, rfl⟩
end Go.Proofs.YtcpkikillmmjcaaGreatDoor.LogC
