/-
  The reference's digits of a number, and match, over this seat's translation.
  Conditions: none but where the bytes lie.
-/
import Derived.Test.YtincckopnebceaaGreatDoorChunkDec2
import Derived.Test.YtincckopnebceaaGreatDoorChunkEnc
import Derived.WalkSpells
import Derived.Deep.QuietTactic
import Derived.BigQuiet
namespace Go.Proofs.YtincckopnebceaaGreatDoor.ChunkR
open Go.RowKit BA SlicesB ChunkD HexC ChunkC ChunkI
set_option linter.unusedVariables false
set_option linter.unusedSimpArgs false

theorem strOf_app (a b : List Int) : strOf a ++ strOf b = strOf (a ++ b) := by
  unfold strOf
  apply ByteArray.ext
  simp
theorem strOf_size (l : List Int) : (strOf l).size = l.length := by simp [strOf, ByteArray.size]
theorem strOf_cells {l : List Int} (h : ∀ z ∈ l, 0 ≤ z ∧ z ≤ 255) : Lib.strCells (strOf l) = BytesL.valB l := by
  simp only [Lib.strCells, strOf, BytesL.valB, List.map_map]
  apply List.map_congr_left
  intro z hz
  have := h z hz
  simp only [Function.comp]
  congr 1
  rw [UInt8.toNat_ofNat']
  omega
theorem hexL_bd (n : Nat) : ∀ z ∈ hexL n, 0 ≤ z ∧ z ≤ 255 := by
  induction n using Nat.strongRecOn with
  | ind n ih =>
    intro z hz
    by_cases h : n < 16
    · rw [hexL_small h] at hz
      obtain rfl := List.mem_singleton.1 hz
      exact dig_bd h
    · rw [hexL_big h] at hz
      rcases List.mem_append.1 hz with hz | hz
      · exact ih (n / 16) (by omega) z hz
      · obtain rfl := List.mem_singleton.1 hz
        exact dig_bd (by omega)
theorem cut16 (k : Nat) (h : k < 16) : (⟨#[48, 49, 50, 51, 52, 53, 54, 55, 56, 57, 97, 98, 99, 100, 101, 102]⟩ : ByteArray).extract k (k + 1) = strOf [dig k] := by
  have h2 : ∀ k : Fin 16, (⟨#[48, 49, 50, 51, 52, 53, 54, 55, 56, 57, 97, 98, 99, 100, 101, 102]⟩ : ByteArray).extract k.val (k.val + 1) = strOf [dig k.val] := by decide +kernel
  exact h2 ⟨k, h⟩
set_option maxRecDepth 100000 in
set_option maxHeartbeats 1000000 in
theorem hex_any (n : Nat) : n ≤ 8000 → ∀ w : World, Calls Tryz.prog 55 #[.int .i64 n] w fun e w' => e = .returned (.string (strOf (hexL n))) ∧ w = w' := by
  induction n using Nat.strongRecOn with
  | ind n ih =>
    intro hn w
    by_cases h : n < 16
    · rw [hexL_small h]
      have h1 : (n : Int) < 16 := by omega
      have h2 := cut16 n h
      go_enter Tryz.func55, Tryz.ntmps55
      go_wp2
      go_ret
      exact ⟨rfl, rfl⟩
    · have h1 : ¬ (n : Int) < 16 := by omega
      rw [hexL_big h, ← strOf_app]
      have hI := ih (n / 16) (by omega) (by omega) w
      have hc : ((n / 16 : Nat) : Int) = (n : Int) / 16 := by omega
      rw [hc] at hI
      have h2 := cut16 (n % 16) (by omega)
      have h3 : (n : Int) % 16 + 1 ≤ 16 := by omega
      have h4 : 0 ≤ (n : Int) % 16 := by omega
      have h5 : 0 ≤ (n : Int) % 16 + 1 := by omega
      have h6 : ¬ 9223372036854775807 < (strOf (hexL (n / 16))).size + (strOf [dig (n % 16)]).size := by
        have := hexL_len (n := n / 16) (by omega)
        rw [strOf_size, strOf_size]; simp; omega
      go_enter Tryz.func55, Tryz.ntmps55
      go_wp2_with (go_at_call 55; (with_reducible refine hI.mono ?_); rintro e w1 ⟨rfl, rfl⟩)
      go_ret
      exact ⟨rfl, rfl⟩
end Go.Proofs.YtincckopnebceaaGreatDoor.ChunkR
