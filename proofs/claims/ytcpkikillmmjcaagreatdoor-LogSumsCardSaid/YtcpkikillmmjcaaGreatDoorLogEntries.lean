/-
  The reference's Entries over this seat's translation, exactly.
  Conditions: a slice that reads as entries; their texts no longer than texts may be.
-/
import Derived.Test.YtcpkikillmmjcaaGreatDoorLogEntry
import Derived.Test.YtcpkikillmmjcaaGreatDoorLogS
namespace Go.Proofs.YtcpkikillmmjcaaGreatDoor.LogC
open Go.RowKit LogP LineC RowsK Args
set_option linter.unusedVariables false
set_option linter.unusedSimpArgs false

set_option maxRecDepth 100000 in
set_option maxHeartbeats 8000000 in
theorem rentries_any (v : Value) (l : List En) (w : World) (h : At encE w v l) (hz : ∀ e ∈ l, EnOk e) : Calls Tryz.prog 12 #[v] w fun e w' => e = .returned (.int .i64 (allE l)) ∧ Below w.heap.size w w' := by
  obtain ⟨a, c, rfl, -⟩ := id h
  have HA := Lib.hid h
  have HZE := Lib.hid hz
  obtain ⟨n, hn⟩ : ∃ n, l.length = n := ⟨_, rfl⟩
  have HN := Lib.hid hn
  rw [hn]
  clear h hz
  by_cases hlong : 1000 < n
  · have hE : allE l = 4 := by unfold allE; rw [if_pos (by omega)]
    rw [hE]
    clear hn
    have hl2 : (1000 : Int) < (n : Int) := by omega
    go_enter Tryz.func12, Tryz.ntmps12
    go_wp2_with fail
    go_ret
    exact ⟨rfl, Below.refl _ _⟩
  · have HE : Hid (allE l = firstE (l.map checkE)) := by show _ = _; unfold allE; rw [if_neg (by omega)]
    clear hn
    have hl2 : ¬ (1000 : Int) < (n : Int) := by omega
    have hl3 : n ≤ 1000 := by omega
    go_enter Tryz.func12, Tryz.ntmps12
    go_wp2_with fail
    go_loopw [2, 3, 4] (fun v2 i v4 wr => ∃ k : Nat, i = .int .i64 (k : Int) ∧ k ≤ n ∧ Hid ((∀ e ∈ l.take k, checkE e = 0) ∧ Below w.heap.size w wr)) (fun _ i _ _ => n - (intOf i).toNat)
    case atStart => exact ⟨0, rfl, by omega, fun e he => by simp at he, Below.refl _ _⟩
    case round =>
      obtain ⟨k, rfl, hk, HR⟩ := hrel
      have HRR := HR
      clear HR
      by_cases hlt : k < n
      · have hlt2 : (k : Int) < (n : Int) := by omega
        have hk0 : (0 : Int) ≤ (k : Int) := by omega
        have hkl : k < l.length := by rw [HN.out]; exact hlt
        obtain ⟨b, off, rfl, hb, c0, c1, c2, c3, c4, c5⟩ := (at_cells HA.out).2.2 k hkl
        have x0 := (HRR.out.2.cell (p := ⟨b, off + k * 6, none⟩) hb).trans c0
        have x1 := (HRR.out.2.cell (p := ⟨b, off + k * 6 + 1, none⟩) hb).trans c1
        have x2 := (HRR.out.2.cell (p := ⟨b, off + k * 6 + 2, none⟩) hb).trans c2
        have x3 := (HRR.out.2.cell (p := ⟨b, off + k * 6 + 3, none⟩) hb).trans c3
        have x4 := (HRR.out.2.cell (p := ⟨b, off + k * 6 + 4, none⟩) hb).trans c4
        have x5 := (HRR.out.2.cell (p := ⟨b, off + k * 6 + 5, none⟩) hb).trans c5
        have hok := HZE.out _ (List.getElem_mem hkl)
        obtain ⟨en, hen⟩ : ∃ en, l[k] = en := ⟨_, rfl⟩
        rw [hen] at x0 x1 x2 x3 x4 x5 hok
        have HCK := Lib.hid (rentry_any en hok.2.1 hok.2.2)
        have HX := Lib.hid hen
        clear c0 c1 c2 c3 c4 c5 hen hok
        simp only [enV] at HCK
        by_cases hz : checkE en = 0
        · rw [hz] at HCK
          have HZ := Lib.hid hz
          clear hz
          go_wp2_with (first
            | (go_at_call 6; (with_reducible refine (HCK.out _).mono ?_); rintro e w3 ⟨rfl, hB3⟩; have HB3 := Lib.hid hB3; clear hB3)
            | fail)
          go_roundw
          case rel =>
            refine ⟨k + 1, by simp, by omega, fun e he => ?_, HRR.out.2.trans (HB3.out.mono HRR.out.2.size)⟩
            rw [List.take_succ_eq_append_getElem hkl, HX.out] at he
            rcases List.mem_append.1 he with he | he
            · exact HRR.out.1 e he
            · obtain rfl := List.mem_singleton.1 he
              exact HZ.out
          case measure => simp [intOf]; omega
        · have hf : firstE (l.map checkE) = checkE en := by
            have e1 : l = l.take k ++ l[k] :: l.drop (k + 1) := by
              rw [← List.drop_eq_getElem_cons hkl, List.take_append_drop]
            rw [e1, HX.out, List.map_append, List.map_cons]
            exact firstE_some _ _ _ (fun y hy => by obtain ⟨z, hz, rfl⟩ := List.mem_map.1 hy; exact HRR.out.1 z hz) hz
          have HF : Hid (allE l = checkE en) := HE.out.trans hf
          have hz2 : (checkE en != 0) = true := by simpa using hz
          have hz3 : (checkE en == 0) = false := by simpa using hz
          clear hz hf
          generalize checkE en = ck at *
          go_wp2_with (first
            | (go_at_call 6; (with_reducible refine (HCK.out _).mono ?_); rintro e w3 ⟨rfl, hB3⟩; have HB3 := Lib.hid hB3; clear hB3)
            | fail)
          go_ret
          exact ⟨by rw [HF.out]; rfl, HRR.out.2.trans (HB3.out.mono HRR.out.2.size)⟩
      · obtain rfl : k = n := by omega
        go_wp2_with fail
        go_ret
        refine ⟨?_, HRR.out.2⟩
        rw [HE.out, firstE_none _ (fun y hy => by
          obtain ⟨z, hz, rfl⟩ := List.mem_map.1 hy
          exact HRR.out.1 z (by rw [← HN.out, List.take_length]; exact hz))]
        rfl
end Go.Proofs.YtcpkikillmmjcaaGreatDoor.LogC
