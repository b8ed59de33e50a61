/-
  The law ChunkLengths answers true.
  Conditions: the table of math/bits as it is laid.
-/
import Derived.Test.YtincckopnebceaaDoorChunkEnc
import Derived.Test.YtincckopnebceaaDoorBytesArg
namespace Go.Proofs.YtincckopnebceaaDoor.WalkChunkLengths
open Go.RowKit Go.Shelf BA ChunkI HexC ChunkC
set_option linter.unusedVariables false
set_option linter.unusedSimpArgs false

theorem E_succ (l : List Int) (sz k : Nat) : (encAll (upto (cut l sz) (k + 1))).length = (encAll (upto (cut l sz) k)).length + ((hexL (min sz (l.length - k * sz))).length + min sz (l.length - k * sz) + 4) := by
  rw [upto_succ, encAll_snoc, List.length_append]
  simp only [enc1, List.length_append, cut_len, List.length_cons, List.length_nil]
  omega
theorem E_le (l : List Int) (sz k : Nat) (hsz : sz ≤ 8000) : (encAll (upto (cut l sz) k)).length ≤ k * 8008 := by
  have h := encAll_len (upto (cut l sz) k) (fun q hq => by
    obtain ⟨j, _, rfl⟩ := List.mem_map.1 hq
    rw [cut_len]; omega)
  have e : (upto (cut l sz) k).length = k := by simp [upto]
  rwa [e] at h
theorem pieces_le (len sz : Nat) (hsz : 1 ≤ sz) : pieces len sz ≤ len := by
  rcases Nat.eq_zero_or_pos (pieces len sz) with h | h
  · omega
  · have := (lt_pieces (len := len) (k := pieces len sz - 1) hsz).1 (by omega)
    have h2 : (pieces len sz - 1) * 1 ≤ (pieces len sz - 1) * sz := Nat.mul_le_mul_left _ hsz
    omega
theorem hexL_pos (n : Nat) : 1 ≤ (hexL n).length := by
  by_cases h : n < 16
  · rw [hexL_small h]; simp
  · rw [hexL_big h]; simp
set_option maxRecDepth 100000 in
set_option maxHeartbeats 2000000 in
theorem walk (v : Value) (l : List Int) (size : Int) (w : World) (hv : Args.BytesAt w v l) (hs : Args.I64 size) (hT : Tab16 w) :
    Calls Tryd.prog 3 #[v, .int .i64 size] w fun e w' => e = .returned (.bool true) ∧ Below w.heap.size w w' := by
  obtain ⟨hv, _⟩ := hv
  obtain ⟨a, cap, rfl, hc1, hc2, _, _⟩ := hv.open
  have hE0 := encode_ok none 0 5 [] w ⟨none, 0, rfl, by simp [BytesL.valB], by simp, by simp, by simp [BytesL.valB]⟩ (by omega) (by simp) hT
  have e0 : encAll (upto (cut [] 5) (pieces 0 5)) ++ tail5 = tail5 := by rw [pieces_zero 5 (by omega)]; rfl
  simp only [List.length_nil] at hE0
  rw [e0] at hE0
  have hE1 : Calls Tryd.prog 8 #[.slice none 0 0, .int .i64 5] w fun e w' => ∃ a1 c1, e = .returned (.tuple #[.slice a1 5 c1, .nilIface]) ∧ BytesAt w' (.slice a1 5 c1) tail5 ∧ Below w.heap.size w w' := hE0.mono fun e w' h => by
    obtain ⟨v, rfl, hO, hB⟩ := h
    have hat := BytesAt.of_own hO
    obtain ⟨a1, c1, rfl, _⟩ := hO.slice
    exact ⟨a1, c1, rfl, hat, hB⟩
  clear hE0 e0
  have hcv : ∀ W x, BytesAt W x tail5 → (convert 22 9 x).run Tryd.prog W = .ok (.string ⟨#[48, 13, 10, 13, 10]⟩) W := fun W x hx => conv_back hx (by decide)
  by_cases hr : size < 1 ∨ 8000 < size
  · go_enter Tryd.func3, Tryd.ntmps3
    go_wp2_with (first
      | (go_at_call 8; (with_reducible refine hE1.mono ?_); rintro e w1 ⟨a1, c1, rfl, hO1, hB1⟩; have hcv1 := hcv _ _ hO1)
      | (go_at_call 8; (with_reducible refine (encode_range _ size _ hr).mono ?_); rintro e w2 ⟨rfl, rfl⟩))
    all_goals go_ret
    all_goals exact ⟨rfl, hB1⟩
  · have h1 : ¬ size < 1 := fun h => hr (.inl h)
    have h2 : ¬ 8000 < size := fun h => hr (.inr h)
    clear hr
    by_cases hl : 8000 < l.length
    · have h3 : (8000 : Int) < (l.length : Int) := by omega
      have hEF := fun w1 => encode_full a l.length cap size w1 h1 h2 hl
      go_enter Tryd.func3, Tryd.ntmps3
      go_wp2_with (first
        | (go_at_call 8; (with_reducible refine hE1.mono ?_); rintro e w1 ⟨a1, c1, rfl, hO1, hB1⟩; have hcv1 := hcv _ _ hO1)
        | (go_at_call 8; (with_reducible refine (hEF _).mono ?_); rintro e w2 ⟨rfl, rfl⟩))
      all_goals go_ret
      all_goals exact ⟨rfl, hB1⟩
    · obtain ⟨sz, rfl⟩ : ∃ sz : Nat, size = sz := ⟨size.toNat, by omega⟩
      have hsz1 : 1 ≤ sz := by omega
      have hsz2 : sz ≤ 8000 := by omega
      have hpl := pieces_le l.length sz hsz1
      obtain ⟨E, hE⟩ : ∃ E : Nat → Nat, ∀ k, E k = (encAll (upto (cut l sz) k)).length := ⟨_, fun _ => rfl⟩
      have HEs : ∀ k, E (k + 1) = E k + ((hexL (min sz (l.length - k * sz))).length + min sz (l.length - k * sz) + 4) := fun k => by rw [hE, hE]; exact E_succ l sz k
      have HEl : ∀ k, E k ≤ k * 8008 := fun k => by rw [hE]; exact E_le l sz k hsz2
      have hE2 : ∀ w1, Below w.heap.size w w1 → Calls Tryd.prog 8 #[.slice a l.length cap, .int .i64 sz] w1 fun e w' => ∃ a1 c1, e = .returned (.tuple #[.slice a1 (E (pieces l.length sz) + 5) c1, .nilIface]) ∧ Below w1.heap.size w1 w' := fun w1 hB1 =>
        (encode_ok a cap sz l w1 (hv.below hB1) ⟨hsz1, hsz2⟩ (by omega) (hT.below hB1 hT.2)).mono fun e w' h => by
          obtain ⟨v, rfl, hO, hB⟩ := h
          obtain ⟨a1, c1, rfl, _⟩ := hO.slice
          refine ⟨a1, c1, ?_, hB⟩
          rw [hE]; simp [tail5]
      have hp0 : E 0 = 0 := by rw [hE]; rfl
      have hlp : ∀ k, k < pieces l.length sz ↔ k * sz < l.length := fun k => lt_pieces hsz1
      clear hE
      have HES := Lib.hid HEs
      have HEL := Lib.hid HEl
      have HLP := Lib.hid hlp
      clear HEs HEl hlp hv
      generalize hpp : pieces l.length sz = pp at *
      have HPP := Lib.hid hpp
      clear hpp
      have hn8 : l.length ≤ 8000 := by omega
      generalize hln : l.length = n at *
      have HN8 := Lib.hid hn8
      have HLN := Lib.hid hln
      clear hln
      go_enter Tryd.func3, Tryd.ntmps3
      go_wp2_with (first
        | (go_at_call 8; (with_reducible refine hE1.mono ?_); rintro e w1 ⟨a1, c1, rfl, hO1, hB1⟩; have hcv1 := hcv _ _ hO1)
        | (go_at_call 8; (with_reducible refine (hE2 _ hB1).mono ?_); rintro e w2 ⟨a2, c2, rfl, hB2⟩))
      go_loop [9, 10] (fun wt lf => ∃ k : Nat, k ≤ pp ∧ wt = .int .i64 ((5 + E k : Nat) : Int) ∧ lf = .int .i64 ((n - k * sz : Nat) : Int)) (fun _ lf => (intOf lf).toNat)
      case atStart => exact ⟨0, Nat.zero_le _, by rw [hp0]; rfl, by simp⟩
      case round =>
        obtain ⟨k, hk, rfl, rfl⟩ := hrel
        have hEk := HEL.out k
        by_cases hlt : k < pp
        · have q0 : k * sz < n := (HLP.out k).1 hlt
          have hS := HES.out k
          obtain ⟨lf, hlf⟩ : ∃ lf, n - k * sz = lf := ⟨_, rfl⟩
          rw [hlf] at hS
          rw [hlf]
          have hlf2 : lf ≤ 8000 := by have := HN8.out; omega
          have hlf3 : n - (k + 1) * sz = lf - sz := by rw [Nat.add_mul]; omega
          have q1 : (0 : Int) < (lf : Int) := by omega
          have HLF := Lib.hid hlf
          have HLF3 := Lib.hid hlf3
          clear hlf hlf3 q0
          obtain ⟨m, hm⟩ : ∃ m, min sz lf = m := ⟨_, rfl⟩
          rw [hm] at hS
          obtain ⟨d, hd⟩ : ∃ d, (hexL m).length = d := ⟨_, rfl⟩
          have hd4 : d ≤ 4 := by rw [← hd]; exact hexL_len (by omega)
          rw [hd] at hS
          have HSS := Lib.hid hS
          clear hS
          have HD := Lib.hid hd
          clear hd
          have hmm : (lf < sz ∧ m = lf) ∨ (¬ lf < sz ∧ m = sz) := by omega
          have HM := Lib.hid hm
          clear hm
          rcases hmm with ⟨hc, rfl⟩ | ⟨hc, rfl⟩
          · have q2 : (m : Int) < (sz : Int) := by omega
            go_wp2
            go_loop [12, 13] (fun dv x => ∃ dd y : Nat, dv = .int .i64 dd ∧ x = .int .i64 y ∧ Hid (dd + (hexL y).length = 1 + (hexL m).length) ∧ y ≤ 8000 ∧ dd ≤ 4) (fun _ x => (intOf x).toNat)
            case atStart => exact ⟨1, m, rfl, rfl, rfl, by omega, by omega⟩
            case round =>
              obtain ⟨dd, y, rfl, rfl, HY, hy, hdd⟩ := hrel
              by_cases hy2 : 15 < y
              · have q3 : (15 : Int) < (y : Int) := by omega
                have hbig := congrArg List.length (hexL_big (n := y) (by omega))
                rw [List.length_append, List.length_singleton] at hbig
                have HB := Lib.hid hbig
                clear hbig
                go_wp2
                have hpos := hexL_pos (y / 16)
                have h1 := HY.out
                have h2 := HD.out
                have h3 := HB.out
                refine ⟨⟨dd + 1, y / 16, congrArg (Value.int .i64) (by omega), congrArg (Value.int .i64) (by omega), ?_, by omega, by omega⟩, by simp [intOf]; omega⟩
                show _ = _
                omega
              · have q3 : ¬ (15 : Int) < (y : Int) := by omega
                have hsm := congrArg List.length (hexL_small (n := y) (by omega))
                rw [List.length_singleton] at hsm
                have hdd2 : dd = d := by have h1 := HY.out; have h2 := HD.out; omega
                subst hdd2
                clear hsm
                go_wp2
                have h4 := HSS.out
                have h5 := HLF3.out
                refine ⟨⟨k + 1, by omega, congrArg (Value.int .i64) (by omega), congrArg (Value.int .i64) (by omega)⟩, by simp [intOf]; omega⟩
          · have q2 : ¬ (lf : Int) < (m : Int) := by omega
            go_wp2
            go_loop [12, 13] (fun dv x => ∃ dd y : Nat, dv = .int .i64 dd ∧ x = .int .i64 y ∧ Hid (dd + (hexL y).length = 1 + (hexL m).length) ∧ y ≤ 8000 ∧ dd ≤ 4) (fun _ x => (intOf x).toNat)
            case atStart => exact ⟨1, m, rfl, rfl, rfl, by omega, by omega⟩
            case round =>
              obtain ⟨dd, y, rfl, rfl, HY, hy, hdd⟩ := hrel
              by_cases hy2 : 15 < y
              · have q3 : (15 : Int) < (y : Int) := by omega
                have hbig := congrArg List.length (hexL_big (n := y) (by omega))
                rw [List.length_append, List.length_singleton] at hbig
                have HB := Lib.hid hbig
                clear hbig
                go_wp2
                have hpos := hexL_pos (y / 16)
                have h1 := HY.out
                have h2 := HD.out
                have h3 := HB.out
                refine ⟨⟨dd + 1, y / 16, congrArg (Value.int .i64) (by omega), congrArg (Value.int .i64) (by omega), ?_, by omega, by omega⟩, by simp [intOf]; omega⟩
                show _ = _
                omega
              · have q3 : ¬ (15 : Int) < (y : Int) := by omega
                have hsm := congrArg List.length (hexL_small (n := y) (by omega))
                rw [List.length_singleton] at hsm
                have hdd2 : dd = d := by have h1 := HY.out; have h2 := HD.out; omega
                subst hdd2
                clear hsm
                go_wp2
                have h4 := HSS.out
                have h5 := HLF3.out
                refine ⟨⟨k + 1, by omega, congrArg (Value.int .i64) (by omega), congrArg (Value.int .i64) (by omega)⟩, by simp [intOf]; omega⟩
        · obtain rfl : k = pp := by omega
          have h0 : n - k * sz = 0 := by
            have h1 : ¬ k * sz < n := fun h => hlt ((HLP.out k).2 h)
            omega
          rw [h0]
          have q4 : ((E k + 5 : Nat) : Int) = ((5 + E k : Nat) : Int) := by omega
          go_wp2
          trace_state
          go_ret
          exact ⟨rfl, hB1.trans (hB2.mono hB1.size)⟩
end Go.Proofs.YtincckopnebceaaDoor.WalkChunkLengths
