/-
  log.write and log.Print over this seat's translation, exactly.
  Conditions: the table of powers of ten; the entry's numbers are ints, its texts no longer than texts may be.
-/
import Derived.Test.YtcpkikillmmjcaaGreatDoorEntriesArg
import Derived.Test.YtcpkikillmmjcaaGreatDoorRowsMore
import Derived.Test.YtcpkikillmmjcaaGreatDoorMod
import Derived.IntWalk
import Derived.Lib.Walk
import Derived.WalkSmall
namespace Go.Proofs.YtcpkikillmmjcaaGreatDoor.LogC
open Go.RowKit LogP LineC RowsK RowsM Args ModL
set_option linter.unusedVariables false
set_option linter.unusedSimpArgs false

def encT : Enc ByteArray := ⟨1, fun s => [.string s], fun _ => rfl, fun x v hv => by simp at hv; subst hv; rfl, by decide⟩
theorem elemT : Elem Tryz.prog 43 9 encT.k 16 := Elem.of (z := .string ⟨#[]⟩) Tryz.underlying43 (by kernel_rfl) rfl (by decide)
def Pow10 (w : World) : Prop := Lib.TabIs Tryz.prog w "internal/strconv.uint64pow10" .u64 Lib.pow10Tab
theorem Pow10.old {w w' : World} (h : Pow10 w) (hB : Below w.heap.size w w') : Pow10 w' := by
  unfold Pow10 Lib.TabIs at h ⊢
  have hg : ∃ g, Tryz.prog.globalNamed "internal/strconv.uint64pow10" = some g := by
    unfold World.var? at h
    cases e : Tryz.prog.globalNamed "internal/strconv.uint64pow10" with
    | none => rw [e] at h; cases h
    | some g => exact ⟨g, rfl⟩
  obtain ⟨g, hg⟩ := hg
  refine var?_below hB hg ?_ h
  unfold World.var? at h
  rw [hg] at h
  rcases Nat.lt_or_ge g w.heap.size with h' | h'
  · exact h'
  · simp [Array.getElem?_eq_none h'] at h
def itoaB (n : Int) : ByteArray := ⟨(Lib.itoa n).toArray⟩
theorem itoa_any (n : Int) (hn : I64 n) (w : World) (hp : Pow10 w) : Calls Tryz.prog 42 #[.int .i64 n] w fun e w' => e = .returned (.string (itoaB n)) ∧ Below w.heap.size w w' := by
  refine (Tryz.strconv_Itoa n hn.1 hn.2 w hp).mono ?_
  rintro e w' ⟨rfl, k, os, rfl⟩
  refine ⟨rfl, rfl, rfl, rfl, by simp [Go.Sort.grow, World.drewN], fun k hk => ?_⟩
  exact Array.getElem?_append_left hk
def nums (en : En) : List Int := [en.time, en.code, en.bytes, en.took]
theorem nums_at (en : En) (k : Nat) (h : k < 4) : (nums en).take (k + 1) = (nums en).take k ++ [(nums en).getD k 0] := by
  rcases k with _ | _ | _ | _ | k
  · rfl
  · rfl
  · rfl
  · rfl
  · omega
set_option maxRecDepth 100000 in
set_option maxHeartbeats 8000000 in
theorem write_any (en : En) (hck : checkE en = 0) (w : World) (hp : Pow10 w) : Calls Tryz.prog 21 #[enV en] w fun e w' => e = .returned (.string ⟨(writeE en).toArray⟩) ∧ Below w.heap.size w w' := by
  have HLN : Hid ((writeE en).length ≤ 900) := write_len hck
  have HP := Lib.hid hp
  have HNS : Hid (∀ k, k < 4 → I64 ((nums en).getD k 0)) := fun k hk => by
    obtain ⟨a, b, c, d⟩ := rangeE_bd (check_parts hck).1
    rcases k with _ | _ | _ | _ | k
    · show I64 en.time; unfold I64; omega
    · show I64 en.code; unfold I64; omega
    · show I64 en.bytes; unfold I64; omega
    · show I64 en.took; unfold I64; omega
    · omega
  clear hck hp
  unfold enV
  go_enter Tryz.func21, Tryz.ntmps21
  go_wp2_with fail
  have hB0 : Below w.heap.size w ((w.alloc (.cells #[.int .i64 en.time, .int .i64 en.code, .int .i64 en.bytes, .int .i64 en.took, .string en.method, .string en.path] 23)).alloc (.cells #[.int .i64 en.time, .int .i64 en.code, .int .i64 en.bytes, .int .i64 en.took] 3)) := ((Below.refl _ _).alloc (Nat.le_refl _) _).alloc (by simp) _
  have p4 : ((w.alloc (.cells #[.int .i64 en.time, .int .i64 en.code, .int .i64 en.bytes, .int .i64 en.took, .string en.method, .string en.path] 23)).alloc (.cells #[.int .i64 en.time, .int .i64 en.code, .int .i64 en.bytes, .int .i64 en.took] 3)).cell? ⟨w.heap.size, 4, none⟩ = some (.string en.method) := by
    rw [World.cell?_alloc_lt _ _ ⟨w.heap.size, 4, none⟩ (by simp)]; simp
  have p5 : ((w.alloc (.cells #[.int .i64 en.time, .int .i64 en.code, .int .i64 en.bytes, .int .i64 en.took, .string en.method, .string en.path] 23)).alloc (.cells #[.int .i64 en.time, .int .i64 en.code, .int .i64 en.bytes, .int .i64 en.took] 3)).cell? ⟨w.heap.size, 5, none⟩ = some (.string en.path) := by
    rw [World.cell?_alloc_lt _ _ ⟨w.heap.size, 5, none⟩ (by simp)]; simp
  have hsz : ((w.alloc (.cells #[.int .i64 en.time, .int .i64 en.code, .int .i64 en.bytes, .int .i64 en.took, .string en.method, .string en.path] 23)).alloc (.cells #[.int .i64 en.time, .int .i64 en.code, .int .i64 en.bytes, .int .i64 en.took] 3)).heap.size = w.heap.size + 2 := by simp
  have hnc : ∀ k, k < 4 → ((w.alloc (.cells #[.int .i64 en.time, .int .i64 en.code, .int .i64 en.bytes, .int .i64 en.took, .string en.method, .string en.path] 23)).alloc (.cells #[.int .i64 en.time, .int .i64 en.code, .int .i64 en.bytes, .int .i64 en.took] 3)).cell? ⟨w.heap.size + 1, k, none⟩ = some (.int .i64 ((nums en).getD k 0)) := fun k hk => by
    have h : w.heap.size + 1 = (w.alloc (.cells #[.int .i64 en.time, .int .i64 en.code, .int .i64 en.bytes, .int .i64 en.took, .string en.method, .string en.path] 23)).heap.size := by simp
    rw [h]
    rcases k with _ | _ | _ | _ | k
    · simp [nums]
    · simp [nums]
    · simp [nums]
    · simp [nums]
    · omega
  have HB0 := Lib.hid hB0
  have HNC := Lib.hid hnc
  have HSZ := Lib.hid hsz
  clear hB0 hnc hsz
  generalize ((w.alloc (.cells #[.int .i64 en.time, .int .i64 en.code, .int .i64 en.bytes, .int .i64 en.took, .string en.method, .string en.path] 23)).alloc (.cells #[.int .i64 en.time, .int .i64 en.code, .int .i64 en.bytes, .int .i64 en.took] 3)) = W1 at *
  go_loopw [3, 5, 16] (fun v3 v5 i wr => ∃ (k : Nat) (a : Option Addr) (c : Nat), i = .int .i64 (k : Int) ∧ k ≤ 4 ∧ v3 = .slice a k c ∧ Hid (RowsK.Own encT wr W1.heap.size 9 (.slice a k c) (((nums en).take k).map itoaB) ∧ Below W1.heap.size W1 wr)) (fun _ _ i _ => 4 - (intOf i).toNat)
  case atStart => exact ⟨0, none, 0, rfl, by omega, rfl, RowsK.Own.nil _ _ _ _, Below.refl _ _⟩
  case round =>
    obtain ⟨k, a, c, rfl, hk, rfl, HR⟩ := hrel
    have HRR := HR
    clear HR
    by_cases hlt : k < 4
    · have hlt2 : (k : Int) < 4 := by omega
      have q := (HRR.out.2.cell (p := ⟨w.heap.size + 1, k, none⟩) (by have := HSZ.out; simp only; omega)).trans (HNC.out k hlt)
      have HI := Lib.hid (itoa_any ((nums en).getD k 0) (HNS.out k hlt) wr (HP.out.old (HB0.out.trans (HRR.out.2.mono (by have := HSZ.out; omega)))))
      obtain ⟨x, hx⟩ : ∃ x, (nums en).getD k 0 = x := ⟨_, rfl⟩
      have HX := Lib.hid hx
      rw [hx] at q HI
      clear hx
      go_wp2_with (first
        | (go_at_call 42; refine HI.out.mono ?_; rintro e w2 ⟨rfl, hB2⟩; have HB2 := Lib.hid hB2; have HOW : Hid (RowsK.Own encT (w2.alloc (.cells #[.string (itoaB x)] 9)) W1.heap.size 9 (.slice a k c) (((nums en).take k).map itoaB)) := ((own_below HRR.out.1 hB2).alloc _); have HAT : Hid (At encT (w2.alloc (.cells #[.string (itoaB x)] 9)) (.slice (some ⟨w2.heap.size, 0, none⟩) 1 1) [itoaB x]) := (RowsK.Own.lit (E := encT) (e := 9) w2 #[.string (itoaB x)] [itoaB x] (Nat.le_refl _) (by simp) rfl).at_; clear hB2)
        | (at_builtin; refine RowsK.wpList_append elemT rfl _ _ rfl W1.heap.size _ rfl HOW.out _ [itoaB x] rfl HAT.out (by simp [nums]; omega) (by have := HRR.out.2.size; have := HB2.out.size; simp; omega) ?_; intro v4 w4 hO4 hB4 hg4 hat4; obtain ⟨a4, c4, e4, -⟩ := hO4.slice; rw [show (((nums en).take k).map itoaB ++ [itoaB x]).length = k + 1 from (by simp [nums]; omega)] at e4; subst e4; have HO4 := Lib.hid hO4; have HB4 := Lib.hid hB4; clear hO4 hB4 hg4 hat4)
        | fail)
      go_roundw
      case rel =>
        refine ⟨k + 1, a4, c4, by simp, by omega, rfl, ?_, ?_⟩
        · rw [nums_at en k hlt, HX.out, List.map_append]; exact HO4.out
        · exact HRR.out.2.trans ((HB2.out.mono HRR.out.2.size).trans (((Below.refl w2.heap.size w2).alloc (Nat.le_refl _) (.cells #[.string (itoaB x)] 9)).mono (by have := HRR.out.2.size; have := HB2.out.size; omega) |>.trans HB4.out))
      case measure => simp [intOf]; omega
    · obtain rfl : k = 4 := by omega
      have r4 := (HRR.out.2.cell (p := ⟨w.heap.size, 4, none⟩) (by have := HSZ.out; simp only; omega)).trans p4
      have r5 := (HRR.out.2.cell (p := ⟨w.heap.size, 5, none⟩) (by have := HSZ.out; simp only; omega)).trans p5
      have HOW : Hid (RowsK.Own encT (wr.alloc (.cells #[.string en.method, .string en.path] 9)) W1.heap.size 9 (.slice a 4 c) (((nums en).take 4).map itoaB)) := (HRR.out.1).alloc _
      have HAT : Hid (At encT (wr.alloc (.cells #[.string en.method, .string en.path] 9)) (.slice (some ⟨wr.heap.size, 0, none⟩) 2 2) [en.method, en.path]) := (RowsK.Own.lit (E := encT) (e := 9) wr #[.string en.method, .string en.path] [en.method, en.path] (Nat.le_refl _) (by simp) rfl).at_
      go_wp2_with (first
        | (at_builtin; refine RowsK.wpList_append elemT rfl _ _ rfl W1.heap.size _ rfl HOW.out _ [en.method, en.path] rfl HAT.out (by simp [nums]) (by have := HRR.out.2.size; simp; omega) ?_; intro v4 w4 hO4 hB4 hg4 hat4; obtain ⟨b4, c4, rfl, hc4, -, -, hb4, hel4⟩ := hO4.slice1 6 rfl (by decide); have HEL := Lib.hid (And.intro hc4 (And.intro hb4 hel4)); have HB4 := Lib.hid hB4; clear hO4 hB4 hg4 hat4 hc4 hb4 hel4)
        | fail)
      have HJ := Lib.hid (Tryz.strings_Join b4 0 c4 (((nums en).take 4).map itoaB ++ [en.method, en.path]) ⟨#[32]⟩ w4 (fun j x hx => by
        obtain ⟨hj, hx2⟩ := List.getElem?_eq_some_iff.1 hx
        have h := HEL.out.2.2 j hj 0 (by decide)
        rw [hx2] at h
        simpa [encT] using h) HEL.out.2.1 (by simp [nums]) HEL.out.1 (by
          have h := HLN.out
          have e : (((nums en).take 4).map itoaB ++ [en.method, en.path]).map (·.data.toList) = partsE en := by simp [nums, itoaB, partsE]
          rw [e]
          show (writeE en).length ≤ _
          omega))
      have e : (((nums en).take 4).map itoaB ++ [en.method, en.path]).map (·.data.toList) = partsE en := by simp [nums, itoaB, partsE]
      rw [e] at HJ
      clear e
      refine HJ.out.mono ?_
      rintro e w5 ⟨rfl, hB5⟩
      have HB5 := Lib.hid hB5
      clear hB5
      go_wp2_with fail
      go_ret
      refine ⟨rfl, ?_⟩
      have hb := HSZ.out
      have h1 := HRR.out.2.size
      have hBx : Below W1.heap.size W1 w4 := HRR.out.2.trans ((((Below.refl wr.heap.size wr).alloc (Nat.le_refl _) (.cells #[.string en.method, .string en.path] 9)).mono h1).trans HB4.out)
      exact (HB0.out.trans (hBx.mono (by omega))).trans (HB5.out.mono (by have := hBx.size; omega))
/-- The text of an entry, if there is one. -/
def textE (en : En) : ByteArray := if checkE en = 0 then ⟨(writeE en).toArray⟩ else ByteArray.empty
theorem print_any (en : En) (w : World) (hp : Pow10 w) : Calls Tryz.prog 8 #[enV en] w fun e w' => e = .returned (.tuple #[.string (textE en), errV (checkE en)]) ∧ Below w.heap.size w w' := by
  have HC := Lib.hid (check_any en)
  by_cases hz : checkE en = 0
  · have HW : Hid (∀ W, Pow10 W → Calls Tryz.prog 21 #[enV en] W fun e w' => e = .returned (.string (textE en)) ∧ Below W.heap.size W w') := fun W hW => by
      have h := write_any en hz W hW
      unfold textE
      rw [if_pos hz]
      exact h
    have HP := Lib.hid hp
    rw [hz] at HC ⊢
    clear hz hp
    unfold enV at *
    generalize textE en = x at *
    simp only [errV, if_true] at HC ⊢
    go_enter Tryz.func8, Tryz.ntmps8
    go_wp2_with fail
    have HB0 : Hid (Below w.heap.size w (w.alloc (.cells #[.int .i64 en.time, .int .i64 en.code, .int .i64 en.bytes, .int .i64 en.took, .string en.method, .string en.path] 23))) := (Below.refl _ _).alloc (Nat.le_refl _) _
    have c : ∀ j u, (#[.int .i64 en.time, .int .i64 en.code, .int .i64 en.bytes, .int .i64 en.took, .string en.method, .string en.path] : Array Value)[j]? = some u → (w.alloc (.cells #[.int .i64 en.time, .int .i64 en.code, .int .i64 en.bytes, .int .i64 en.took, .string en.method, .string en.path] 23)).cell? ⟨w.heap.size, j, none⟩ = some u := fun j u h => by simpa using h
    have c0 := c 0 _ rfl
    have c1 := c 1 _ rfl
    have c2 := c 2 _ rfl
    have c3 := c 3 _ rfl
    have c4 := c 4 _ rfl
    have c5 := c 5 _ rfl
    have hs : w.heap.size < (w.alloc (.cells #[.int .i64 en.time, .int .i64 en.code, .int .i64 en.bytes, .int .i64 en.took, .string en.method, .string en.path] 23)).heap.size := by simp
    clear c
    generalize w.alloc (.cells #[.int .i64 en.time, .int .i64 en.code, .int .i64 en.bytes, .int .i64 en.took, .string en.method, .string en.path] 23) = w0 at *
    go_wp2_with (first
      | (go_at_call 20; refine (HC.out _).mono ?_; rintro e w1 ⟨rfl, hB1⟩; have d0 := (hB1.cell (p := ⟨w.heap.size, 0, none⟩) hs).trans c0; have d1 := (hB1.cell (p := ⟨w.heap.size, 1, none⟩) hs).trans c1; have d2 := (hB1.cell (p := ⟨w.heap.size, 2, none⟩) hs).trans c2; have d3 := (hB1.cell (p := ⟨w.heap.size, 3, none⟩) hs).trans c3; have d4 := (hB1.cell (p := ⟨w.heap.size, 4, none⟩) hs).trans c4; have d5 := (hB1.cell (p := ⟨w.heap.size, 5, none⟩) hs).trans c5; have HB1 := Lib.hid (HB0.out.trans (hB1.mono HB0.out.size)); clear hB1 c0 c1 c2 c3 c4 c5)
      | (go_at_call 21; refine (HW.out _ (HP.out.old HB1.out)).mono ?_; rintro e w2 ⟨rfl, hB2⟩; have HB2 := Lib.hid (HB1.out.trans (hB2.mono HB1.out.size)); clear hB2)
      | fail)
    go_ret2
    exact ⟨rfl, HB2.out⟩
  · have HT : Hid (textE en = ByteArray.empty) := if_neg hz
    have HE : Hid (errV (checkE en) = .iface 52 (.int .i64 (checkE en))) := if_neg hz
    rw [HE.out] at HC
    rw [HT.out, HE.out]
    generalize checkE en = ck at *
    clear hz hp HT HE
    unfold enV at *
    go_enter Tryz.func8, Tryz.ntmps8
    have HB0 : Hid (Below w.heap.size w (w.alloc (.cells #[.int .i64 en.time, .int .i64 en.code, .int .i64 en.bytes, .int .i64 en.took, .string en.method, .string en.path] 23))) := (Below.refl _ _).alloc (Nat.le_refl _) _
    go_wp2_with (first
      | (go_at_call 20; refine (HC.out _).mono ?_; rintro e w1 ⟨rfl, hB1⟩; have HB1 := Lib.hid (HB0.out.trans (hB1.mono HB0.out.size)); clear hB1)
      | fail)
    go_ret2
    exact ⟨rfl, HB1.out⟩
end Go.Proofs.YtcpkikillmmjcaaGreatDoor.LogC
