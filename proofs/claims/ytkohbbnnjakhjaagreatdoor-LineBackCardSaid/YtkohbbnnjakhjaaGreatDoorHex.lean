/-
  strconv.AppendInt(nil, n, 16) over this seat's translation: the digits.
  Conditions: 0 ≤ n ≤ 1000000.
-/
import Derived.Test.YtkohbbnnjakhjaaGreatDoorSlicesB
import Derived.WalkSpells
import Derived.WalkLawsBesides
import Derived.IntWalk
import Derived.Laws.BitsLemmas
import Derived.Lib.Hide
namespace Go.Proofs.YtkohbbnnjakhjaaGreatDoor.HexC
open Go.RowKit BA
set_option linter.unusedSimpArgs false
set_option linter.unusedVariables false

/-- A digit's byte. -/
def dig (k : Nat) : Int := if k < 10 then 48 + (k : Int) else 87 + (k : Int)
/-- The digits of a number. -/
def hexL (n : Nat) : List Int := if h : n < 16 then [dig n] else hexL (n / 16) ++ [dig (n % 16)]
termination_by n
theorem hexL_small {n : Nat} (h : n < 16) : hexL n = [dig n] := by rw [hexL]; simp [h]
theorem hexL_big {n : Nat} (h : ¬ n < 16) : hexL n = hexL (n / 16) ++ [dig (n % 16)] := by rw [hexL]; simp [h]
/-- How great what is left may be, behind so many digits. -/
def lim : Nat → Nat
  | 0 => 1048576
  | 1 => 65536
  | 2 => 4096
  | 3 => 256
  | 4 => 16
  | _ => 0
theorem lim_le (k : Nat) : lim k ≤ 1048576 := by
  rcases k with _ | _ | _ | _ | _ | k <;> simp [lim]
theorem wraps_u64_63 (n : Int) (h₀ : 0 ≤ n) (h₁ : n < 2 ^ 63) : IntKind.u64.wrap n = n := by rw [IntKind.wrap_u64]; omega
theorem and15 (u : Nat) (h : u < 1048576) : bits BinOp.and IntKind.u64 (u : Int) 15 = ((u % 16 : Nat) : Int) := by
  have h1 := bits_mask .u64 63 (by decide) wraps_u64_63 4 (by decide) (u : Int) (by omega) (by omega)
  have e1 : ((2 : Int) ^ 4 - 1) = 15 := by decide
  have e2 : ((2 : Int) ^ 4) = 16 := by decide
  rw [e1, e2] at h1
  rw [h1]; omega
def digits36 : ByteArray := ⟨#[48, 49, 50, 51, 52, 53, 54, 55, 56, 57, 97, 98, 99, 100, 101, 102, 103, 104, 105, 106, 107, 108, 109, 110, 111, 112, 113, 114, 115, 116, 117, 118, 119, 120, 121, 122]⟩
theorem hdig (k : Nat) (hk : k < 16) {h : k < (⟨#[48, 49, 50, 51, 52, 53, 54, 55, 56, 57, 97, 98, 99, 100, 101, 102, 103, 104, 105, 106, 107, 108, 109, 110, 111, 112, 113, 114, 115, 116, 117, 118, 119, 120, 121, 122]⟩ : ByteArray).size} :
    ((((⟨#[48, 49, 50, 51, 52, 53, 54, 55, 56, 57, 97, 98, 99, 100, 101, 102, 103, 104, 105, 106, 107, 108, 109, 110, 111, 112, 113, 114, 115, 116, 117, 118, 119, 120, 121, 122]⟩ : ByteArray)[k]'h).toNat : Nat) : Int) = dig k := by
  rcases k with _ | _ | _ | _ | _ | _ | _ | _ | _ | _ | _ | _ | _ | _ | _ | _ | k
  all_goals first | rfl | omega
theorem dig_bd {k : Nat} (h : k < 16) : 0 ≤ dig k ∧ dig k ≤ 255 := by unfold dig; split <;> omega
theorem bytes_here {W : World} {A K c : Nat} {l : List Int} (h : ∀ t, t < l.length → W.cell? ⟨A, K + t, none⟩ = some (.int .u8 (l.getD t 0))) (hA : A < W.heap.size) (hc : l.length ≤ c) (hm : c ≤ 9223372036854775807) : BytesAt W (.slice (some ⟨A, K, none⟩) l.length c) l :=
  ⟨some ⟨A, K, none⟩, c, by simp [BytesL.valB], by simpa [BytesL.valB] using hc, hm, by simp, fun i hi => ⟨A, K, rfl, hA, by
    have hi' : i < l.length := by simpa [BytesL.valB] using hi
    rw [h i hi']; simp [BytesL.valB, List.getD, hi']⟩⟩
/-- What the table says of 16. -/
def Tab16 (w : World) : Prop := w.cell? ⟨6, 15, none⟩ = some (.int .u8 4) ∧ 6 < w.heap.size
theorem Tab16.below {w w' : World} {B : Nat} (h : Tab16 w) (hB : Below B w w') (hb : 6 < B) : Tab16 w' := ⟨(hB.cell (p := ⟨6, 15, none⟩) hb).trans h.1, Nat.lt_of_lt_of_le h.2 hB.size⟩
set_option maxRecDepth 100000 in
set_option maxHeartbeats 1000000 in
theorem tz16 (w : World) (h : Tab16 w) : Calls Tryz.prog 99 #[.int .u64 16] w fun e w' => e = .returned (.int .i64 4) ∧ w = w' := by
  obtain ⟨h1, _⟩ := h
  have e1 : bits BinOp.and IntKind.u64 16 (IntKind.u64.wrap (-16)) = 16 := by decide +kernel
  have e2 : IntKind.u64.wrap (16 * 285870213051353865) / 288230376151711744 = 15 := by decide +kernel
  go_enter Tryz.func99, Tryz.ntmps99
  go_wp2
  go_ret
  exact ⟨rfl, rfl⟩
set_option maxRecDepth 100000 in
set_option maxHeartbeats 4000000 in
theorem format_any (n : Nat) (hn : n ≤ 1000000) (w : World) (hT : Tab16 w) : Calls Tryz.prog 77 #[.slice none 0 0, .int .u64 n, .int .i64 16, .bool false, .bool true] w fun e w' => ∃ v, e = .returned (.tuple #[v, .string ⟨#[]⟩]) ∧ BytesL.Own w' w.heap.size v (hexL n) ∧ Below w.heap.size w w' := by
  have HT := Lib.hid hT
  have HTZ := Lib.hid (fun o => tz16 (w.alloc o) (hT.below ((Below.refl w.heap.size w).alloc (Nat.le_refl _) o) hT.2))
  clear hT
  go_enter Tryz.func77, Tryz.ntmps77
  go_wp2_with (first
    | (go_at_call 99; refine (HTZ.out _).mono ?_; rintro e w2 ⟨rfl, rfl⟩)
    | go_in)
  have hA : ∀ t, t < 65 → (w.alloc (.cells Tryz.zeroCells144 144)).frozen? ⟨w.heap.size, t, none⟩ = false ∧ ∃ v, (w.alloc (.cells Tryz.zeroCells144 144)).cell? ⟨w.heap.size, t, none⟩ = some v := fun t ht => by
    have hz : (Tryz.zeroCells144).size = 65 := by kernel_rfl
    exact ⟨by simp, (Tryz.zeroCells144)[t]'(by omega), by simp [hz, ht]⟩
  have hB0 : Below w.heap.size w (w.alloc (.cells Tryz.zeroCells144 144)) := (Below.refl _ w).alloc (Nat.le_refl _) _
  have hS0 : w.heap.size < (w.alloc (.cells Tryz.zeroCells144 144)).heap.size := by simp
  generalize w.alloc (.cells Tryz.zeroCells144 144) = wa at *
  have HA := Lib.hid hA
  have HB0 := Lib.hid hB0
  clear hA hB0
  go_loopw [1, 13] (fun uv iv wr => ∃ (u : Nat) (tl : List Int), uv = .int .u64 u ∧ iv = .int .i64 (65 - (tl.length : Int)) ∧ tl.length ≤ 4 ∧ u < lim tl.length ∧ Hid (hexL n = hexL u ++ tl ∧ (∀ z ∈ tl, 0 ≤ z ∧ z ≤ 255)) ∧ Hid (∀ t, t < tl.length → wr.cell? ⟨w.heap.size, 65 - tl.length + t, none⟩ = some (.int .u8 (tl.getD t 0))) ∧
      Hid (∀ t, t < 65 → wr.frozen? ⟨w.heap.size, t, none⟩ = false ∧ ∃ v, wr.cell? ⟨w.heap.size, t, none⟩ = some v) ∧ Below w.heap.size w wr ∧ w.heap.size < wr.heap.size) (fun uv _ _ => (intOf uv).toNat)
  case atStart => exact ⟨n, [], rfl, rfl, by simp, by show n < 1048576; omega, ⟨by simp, by simp⟩, (by intro t ht; simp at ht), HA.out, HB0.out, hS0⟩
  case round =>
    obtain ⟨u, tl, rfl, rfl, hl4, hu, HX, HC, HF, hB, hsz⟩ := hrel
    have HB := Lib.hid hB
    clear hB
    by_cases h16 : 16 ≤ u
    · have hl3 : tl.length = 0 ∨ tl.length = 1 ∨ tl.length = 2 ∨ tl.length = 3 := by
        have : tl.length ≠ 4 := fun e => by rw [e] at hu; simp only [lim] at hu; omega
        omega
      have HU := Lib.hid hu
      clear hu hl4
      have e_and : bits BinOp.and IntKind.u64 (u : Int) 15 = ((u % 16 : Nat) : Int) := and15 u (by have := lim_le tl.length; have := HU.out; omega)
      rcases hl3 with hl | hl | hl | hl
      · have HL := Lib.hid hl
        rw [hl]
        clear hl
        simp only [Int.natCast_zero, Int.sub_zero, Int.natCast_one, Int.cast_ofNat_Int]
        obtain ⟨hf, v, hv⟩ := HF.out 64 (by omega)
        go_wp2
        go_roundw
        case measure => simp [intOf]; omega
        have hm := Nat.mod_lt u (show 0 < 16 by decide)
        refine ⟨_, _, _, _, _, _, _, _, _, _, _, _, _, _, _, _, ⟨u / 16, dig (u % 16) :: tl, rfl, ?_, ?_, ?_, ?_, ?_, ?_, ?_, ?_⟩, rfl⟩
        · simp only [List.length_cons, HL.out]; rfl
        · simp only [List.length_cons, HL.out]; omega
        · have := HU.out; rw [HL.out] at this; simp only [List.length_cons, HL.out, lim] at this ⊢; omega
        · refine ⟨?_, ?_⟩
          · rw [HX.out.1, hexL_big (show ¬ u < 16 by omega), List.append_assoc]; rfl
          · intro z hz; rcases List.mem_cons.1 hz with rfl | hz; exact dig_bd hm; exact HX.out.2 z hz
        · intro t ht
          simp only [List.length_cons, HL.out] at ht ⊢
          rw [hdig _ hm]
          cases t with
          | zero => exact World.cell?_setCell_same _ _ _ hv
          | succ t =>
            have h := HC.out t (by rw [HL.out]; omega)
            rw [HL.out] at h
            rw [World.cell?_setCell_other _ _ _ _ (by simp <;> omega)]
            simpa [show 64 + (t + 1) = 64 + 1 + t by omega] using h
        · intro t ht
          refine ⟨by rw [World.frozen?_setCell]; exact (HF.out t ht).1, ?_⟩
          by_cases e : t = 64
          · subst e; exact ⟨_, World.cell?_setCell_same _ _ _ hv⟩
          · obtain ⟨x, hx⟩ := (HF.out t ht).2
            exact ⟨x, (World.cell?_setCell_other _ _ _ _ (by simp <;> omega)).trans hx⟩
        · exact HB.out.setCell (Nat.le_refl _) _
        · simpa using hsz
      · have HL := Lib.hid hl
        rw [hl]
        clear hl
        simp only [Int.natCast_zero, Int.sub_zero, Int.natCast_one, Int.cast_ofNat_Int]
        obtain ⟨hf, v, hv⟩ := HF.out 63 (by omega)
        go_wp2
        go_roundw
        case measure => simp [intOf]; omega
        have hm := Nat.mod_lt u (show 0 < 16 by decide)
        refine ⟨_, _, _, _, _, _, _, _, _, _, _, _, _, _, _, _, ⟨u / 16, dig (u % 16) :: tl, rfl, ?_, ?_, ?_, ?_, ?_, ?_, ?_, ?_⟩, rfl⟩
        · simp only [List.length_cons, HL.out]; rfl
        · simp only [List.length_cons, HL.out]; omega
        · have := HU.out; rw [HL.out] at this; simp only [List.length_cons, HL.out, lim] at this ⊢; omega
        · refine ⟨?_, ?_⟩
          · rw [HX.out.1, hexL_big (show ¬ u < 16 by omega), List.append_assoc]; rfl
          · intro z hz; rcases List.mem_cons.1 hz with rfl | hz; exact dig_bd hm; exact HX.out.2 z hz
        · intro t ht
          simp only [List.length_cons, HL.out] at ht ⊢
          rw [hdig _ hm]
          cases t with
          | zero => exact World.cell?_setCell_same _ _ _ hv
          | succ t =>
            have h := HC.out t (by rw [HL.out]; omega)
            rw [HL.out] at h
            rw [World.cell?_setCell_other _ _ _ _ (by simp <;> omega)]
            simpa [show 63 + (t + 1) = 63 + 1 + t by omega] using h
        · intro t ht
          refine ⟨by rw [World.frozen?_setCell]; exact (HF.out t ht).1, ?_⟩
          by_cases e : t = 63
          · subst e; exact ⟨_, World.cell?_setCell_same _ _ _ hv⟩
          · obtain ⟨x, hx⟩ := (HF.out t ht).2
            exact ⟨x, (World.cell?_setCell_other _ _ _ _ (by simp <;> omega)).trans hx⟩
        · exact HB.out.setCell (Nat.le_refl _) _
        · simpa using hsz
      · have HL := Lib.hid hl
        rw [hl]
        clear hl
        simp only [Int.natCast_zero, Int.sub_zero, Int.natCast_one, Int.cast_ofNat_Int]
        obtain ⟨hf, v, hv⟩ := HF.out 62 (by omega)
        go_wp2
        go_roundw
        case measure => simp [intOf]; omega
        have hm := Nat.mod_lt u (show 0 < 16 by decide)
        refine ⟨_, _, _, _, _, _, _, _, _, _, _, _, _, _, _, _, ⟨u / 16, dig (u % 16) :: tl, rfl, ?_, ?_, ?_, ?_, ?_, ?_, ?_, ?_⟩, rfl⟩
        · simp only [List.length_cons, HL.out]; rfl
        · simp only [List.length_cons, HL.out]; omega
        · have := HU.out; rw [HL.out] at this; simp only [List.length_cons, HL.out, lim] at this ⊢; omega
        · refine ⟨?_, ?_⟩
          · rw [HX.out.1, hexL_big (show ¬ u < 16 by omega), List.append_assoc]; rfl
          · intro z hz; rcases List.mem_cons.1 hz with rfl | hz; exact dig_bd hm; exact HX.out.2 z hz
        · intro t ht
          simp only [List.length_cons, HL.out] at ht ⊢
          rw [hdig _ hm]
          cases t with
          | zero => exact World.cell?_setCell_same _ _ _ hv
          | succ t =>
            have h := HC.out t (by rw [HL.out]; omega)
            rw [HL.out] at h
            rw [World.cell?_setCell_other _ _ _ _ (by simp <;> omega)]
            simpa [show 62 + (t + 1) = 62 + 1 + t by omega] using h
        · intro t ht
          refine ⟨by rw [World.frozen?_setCell]; exact (HF.out t ht).1, ?_⟩
          by_cases e : t = 62
          · subst e; exact ⟨_, World.cell?_setCell_same _ _ _ hv⟩
          · obtain ⟨x, hx⟩ := (HF.out t ht).2
            exact ⟨x, (World.cell?_setCell_other _ _ _ _ (by simp <;> omega)).trans hx⟩
        · exact HB.out.setCell (Nat.le_refl _) _
        · simpa using hsz
      · have HL := Lib.hid hl
        rw [hl]
        clear hl
        simp only [Int.natCast_zero, Int.sub_zero, Int.natCast_one, Int.cast_ofNat_Int]
        obtain ⟨hf, v, hv⟩ := HF.out 61 (by omega)
        go_wp2
        go_roundw
        case measure => simp [intOf]; omega
        have hm := Nat.mod_lt u (show 0 < 16 by decide)
        refine ⟨_, _, _, _, _, _, _, _, _, _, _, _, _, _, _, _, ⟨u / 16, dig (u % 16) :: tl, rfl, ?_, ?_, ?_, ?_, ?_, ?_, ?_, ?_⟩, rfl⟩
        · simp only [List.length_cons, HL.out]; rfl
        · simp only [List.length_cons, HL.out]; omega
        · have := HU.out; rw [HL.out] at this; simp only [List.length_cons, HL.out, lim] at this ⊢; omega
        · refine ⟨?_, ?_⟩
          · rw [HX.out.1, hexL_big (show ¬ u < 16 by omega), List.append_assoc]; rfl
          · intro z hz; rcases List.mem_cons.1 hz with rfl | hz; exact dig_bd hm; exact HX.out.2 z hz
        · intro t ht
          simp only [List.length_cons, HL.out] at ht ⊢
          rw [hdig _ hm]
          cases t with
          | zero => exact World.cell?_setCell_same _ _ _ hv
          | succ t =>
            have h := HC.out t (by rw [HL.out]; omega)
            rw [HL.out] at h
            rw [World.cell?_setCell_other _ _ _ _ (by simp <;> omega)]
            simpa [show 61 + (t + 1) = 61 + 1 + t by omega] using h
        · intro t ht
          refine ⟨by rw [World.frozen?_setCell]; exact (HF.out t ht).1, ?_⟩
          by_cases e : t = 61
          · subst e; exact ⟨_, World.cell?_setCell_same _ _ _ hv⟩
          · obtain ⟨x, hx⟩ := (HF.out t ht).2
            exact ⟨x, (World.cell?_setCell_other _ _ _ _ (by simp <;> omega)).trans hx⟩
        · exact HB.out.setCell (Nat.le_refl _) _
        · simpa using hsz
    · have hu16 : u < 16 := by omega
      have hl5 : tl.length = 0 ∨ tl.length = 1 ∨ tl.length = 2 ∨ tl.length = 3 ∨ tl.length = 4 := by omega
      have hdg := fun h => hdig u hu16 (h := h)
      have HFIN : Hid (hexL n = dig u :: tl) := by show _ = _; rw [HX.out.1, hexL_small hu16]; rfl
      clear hl4 hu h16
      rcases hl5 with hl | hl | hl | hl | hl
      · have HL := Lib.hid hl
        rw [hl]
        clear hl
        simp only [Int.natCast_zero, Int.sub_zero, Int.natCast_one, Int.cast_ofNat_Int]
        obtain ⟨hf, v, hv⟩ := HF.out 64 (by omega)
        have hcs : ∀ t, t < (dig u :: tl).length → (wr.setCell ⟨w.heap.size, 64, none⟩ (.int .u8 (dig u))).cell? ⟨w.heap.size, 64 + t, none⟩ = some (.int .u8 ((dig u :: tl).getD t 0)) := fun t ht => by
          simp only [List.length_cons, HL.out] at ht
          cases t with
          | zero => exact World.cell?_setCell_same _ _ _ hv
          | succ t =>
            have h := HC.out t (by rw [HL.out]; omega)
            rw [HL.out] at h
            rw [World.cell?_setCell_other _ _ _ _ (by simp <;> omega)]
            simpa [show 64 + (t + 1) = 64 + 1 + t by omega] using h
        have HBA := Lib.hid (bytes_here (c := 1) hcs (by simpa using hsz) (by simp [HL.out]) (by decide))
        rw [show (dig u :: tl).length = 1 by simp [HL.out]] at HBA
        have hsz2 : w.heap.size ≤ (wr.setCell ⟨w.heap.size, 64, none⟩ (.int .u8 (dig u))).heap.size := by simp; omega
        clear hcs
        go_wp2_with (at_builtin; refine SlicesB.wpList_append_bytes rfl _ _ rfl w.heap.size _ [] rfl (BytesL.Own.nil _ _) _ (dig u :: tl) rfl HBA.out (by simp [HL.out]) hsz2 ?_; intro v' w2 hown hB2 hg2 hat2)
        go_ret2
        exact ⟨_, rfl, by rw [HFIN.out]; simpa using hown, (HB.out.setCell (Nat.le_refl _) _).trans hB2⟩
      · have HL := Lib.hid hl
        rw [hl]
        clear hl
        simp only [Int.natCast_zero, Int.sub_zero, Int.natCast_one, Int.cast_ofNat_Int]
        obtain ⟨hf, v, hv⟩ := HF.out 63 (by omega)
        have hcs : ∀ t, t < (dig u :: tl).length → (wr.setCell ⟨w.heap.size, 63, none⟩ (.int .u8 (dig u))).cell? ⟨w.heap.size, 63 + t, none⟩ = some (.int .u8 ((dig u :: tl).getD t 0)) := fun t ht => by
          simp only [List.length_cons, HL.out] at ht
          cases t with
          | zero => exact World.cell?_setCell_same _ _ _ hv
          | succ t =>
            have h := HC.out t (by rw [HL.out]; omega)
            rw [HL.out] at h
            rw [World.cell?_setCell_other _ _ _ _ (by simp <;> omega)]
            simpa [show 63 + (t + 1) = 63 + 1 + t by omega] using h
        have HBA := Lib.hid (bytes_here (c := 2) hcs (by simpa using hsz) (by simp [HL.out]) (by decide))
        rw [show (dig u :: tl).length = 2 by simp [HL.out]] at HBA
        have hsz2 : w.heap.size ≤ (wr.setCell ⟨w.heap.size, 63, none⟩ (.int .u8 (dig u))).heap.size := by simp; omega
        clear hcs
        go_wp2_with (at_builtin; refine SlicesB.wpList_append_bytes rfl _ _ rfl w.heap.size _ [] rfl (BytesL.Own.nil _ _) _ (dig u :: tl) rfl HBA.out (by simp [HL.out]) hsz2 ?_; intro v' w2 hown hB2 hg2 hat2)
        go_ret2
        exact ⟨_, rfl, by rw [HFIN.out]; simpa using hown, (HB.out.setCell (Nat.le_refl _) _).trans hB2⟩
      · have HL := Lib.hid hl
        rw [hl]
        clear hl
        simp only [Int.natCast_zero, Int.sub_zero, Int.natCast_one, Int.cast_ofNat_Int]
        obtain ⟨hf, v, hv⟩ := HF.out 62 (by omega)
        have hcs : ∀ t, t < (dig u :: tl).length → (wr.setCell ⟨w.heap.size, 62, none⟩ (.int .u8 (dig u))).cell? ⟨w.heap.size, 62 + t, none⟩ = some (.int .u8 ((dig u :: tl).getD t 0)) := fun t ht => by
          simp only [List.length_cons, HL.out] at ht
          cases t with
          | zero => exact World.cell?_setCell_same _ _ _ hv
          | succ t =>
            have h := HC.out t (by rw [HL.out]; omega)
            rw [HL.out] at h
            rw [World.cell?_setCell_other _ _ _ _ (by simp <;> omega)]
            simpa [show 62 + (t + 1) = 62 + 1 + t by omega] using h
        have HBA := Lib.hid (bytes_here (c := 3) hcs (by simpa using hsz) (by simp [HL.out]) (by decide))
        rw [show (dig u :: tl).length = 3 by simp [HL.out]] at HBA
        have hsz2 : w.heap.size ≤ (wr.setCell ⟨w.heap.size, 62, none⟩ (.int .u8 (dig u))).heap.size := by simp; omega
        clear hcs
        go_wp2_with (at_builtin; refine SlicesB.wpList_append_bytes rfl _ _ rfl w.heap.size _ [] rfl (BytesL.Own.nil _ _) _ (dig u :: tl) rfl HBA.out (by simp [HL.out]) hsz2 ?_; intro v' w2 hown hB2 hg2 hat2)
        go_ret2
        exact ⟨_, rfl, by rw [HFIN.out]; simpa using hown, (HB.out.setCell (Nat.le_refl _) _).trans hB2⟩
      · have HL := Lib.hid hl
        rw [hl]
        clear hl
        simp only [Int.natCast_zero, Int.sub_zero, Int.natCast_one, Int.cast_ofNat_Int]
        obtain ⟨hf, v, hv⟩ := HF.out 61 (by omega)
        have hcs : ∀ t, t < (dig u :: tl).length → (wr.setCell ⟨w.heap.size, 61, none⟩ (.int .u8 (dig u))).cell? ⟨w.heap.size, 61 + t, none⟩ = some (.int .u8 ((dig u :: tl).getD t 0)) := fun t ht => by
          simp only [List.length_cons, HL.out] at ht
          cases t with
          | zero => exact World.cell?_setCell_same _ _ _ hv
          | succ t =>
            have h := HC.out t (by rw [HL.out]; omega)
            rw [HL.out] at h
            rw [World.cell?_setCell_other _ _ _ _ (by simp <;> omega)]
            simpa [show 61 + (t + 1) = 61 + 1 + t by omega] using h
        have HBA := Lib.hid (bytes_here (c := 4) hcs (by simpa using hsz) (by simp [HL.out]) (by decide))
        rw [show (dig u :: tl).length = 4 by simp [HL.out]] at HBA
        have hsz2 : w.heap.size ≤ (wr.setCell ⟨w.heap.size, 61, none⟩ (.int .u8 (dig u))).heap.size := by simp; omega
        clear hcs
        go_wp2_with (at_builtin; refine SlicesB.wpList_append_bytes rfl _ _ rfl w.heap.size _ [] rfl (BytesL.Own.nil _ _) _ (dig u :: tl) rfl HBA.out (by simp [HL.out]) hsz2 ?_; intro v' w2 hown hB2 hg2 hat2)
        go_ret2
        exact ⟨_, rfl, by rw [HFIN.out]; simpa using hown, (HB.out.setCell (Nat.le_refl _) _).trans hB2⟩
      · have HL := Lib.hid hl
        rw [hl]
        clear hl
        simp only [Int.natCast_zero, Int.sub_zero, Int.natCast_one, Int.cast_ofNat_Int]
        obtain ⟨hf, v, hv⟩ := HF.out 60 (by omega)
        have hcs : ∀ t, t < (dig u :: tl).length → (wr.setCell ⟨w.heap.size, 60, none⟩ (.int .u8 (dig u))).cell? ⟨w.heap.size, 60 + t, none⟩ = some (.int .u8 ((dig u :: tl).getD t 0)) := fun t ht => by
          simp only [List.length_cons, HL.out] at ht
          cases t with
          | zero => exact World.cell?_setCell_same _ _ _ hv
          | succ t =>
            have h := HC.out t (by rw [HL.out]; omega)
            rw [HL.out] at h
            rw [World.cell?_setCell_other _ _ _ _ (by simp <;> omega)]
            simpa [show 60 + (t + 1) = 60 + 1 + t by omega] using h
        have HBA := Lib.hid (bytes_here (c := 5) hcs (by simpa using hsz) (by simp [HL.out]) (by decide))
        rw [show (dig u :: tl).length = 5 by simp [HL.out]] at HBA
        have hsz2 : w.heap.size ≤ (wr.setCell ⟨w.heap.size, 60, none⟩ (.int .u8 (dig u))).heap.size := by simp; omega
        clear hcs
        go_wp2_with (at_builtin; refine SlicesB.wpList_append_bytes rfl _ _ rfl w.heap.size _ [] rfl (BytesL.Own.nil _ _) _ (dig u :: tl) rfl HBA.out (by simp [HL.out]) hsz2 ?_; intro v' w2 hown hB2 hg2 hat2)
        go_ret2
        exact ⟨_, rfl, by rw [HFIN.out]; simpa using hown, (HB.out.setCell (Nat.le_refl _) _).trans hB2⟩
theorem append_any (n : Nat) (hn : n ≤ 1000000) (w : World) (hT : Tab16 w) : Calls Tryz.prog 46 #[.slice none 0 0, .int .i64 n, .int .i64 16] w fun e w' => ∃ v, e = .returned v ∧ BytesL.Own w' w.heap.size v (hexL n) ∧ Below w.heap.size w w' := by
  have HF := Lib.hid (format_any n hn w hT)
  have e1 : IntKind.u64.wrap (n : Int) = (n : Int) := wraps_u64_63 _ (by omega) (by omega)
  clear hT
  go_enter Tryz.func46, Tryz.ntmps46
  go_wp2_with (first
    | (go_at_call 77; refine HF.out.mono ?_; rintro e w2 ⟨v, rfl, hO, hB⟩)
    | go_in)
  go_ret
  exact ⟨_, rfl, hO, hB⟩
end Go.Proofs.YtkohbbnnjakhjaaGreatDoor.HexC
