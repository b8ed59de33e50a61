/-
  Contracts of wire.holds, wire.Big and wire.Read over this seat's translation, for 2, 3 and 4 bytes.
  Conditions: the sizes.
-/
import Derived.Test.YtegngpingfjedaaGreatDoorArgs
import Derived.Test.YtegngpingfjedaaGreatDoorBits
import Derived.Test.YtegngpingfjedaaGreatDoorBytes
import Derived.Test.YtegngpingfjedaaGreatDoorBytesAt
import Derived.WalkSpells
import Derived.WalkLawsBesides
import Derived.Handy
import Derived.Lib.Hide
namespace Go.Proofs.YtegngpingfjedaaGreatDoor.WireBig
open Go.RowKit BA
set_option linter.unusedSimpArgs false
set_option linter.unusedVariables false

/-- The most that so many bytes hold. -/
def most (size : Int) : Int := if size = 2 then 65535 else if size = 3 then 16777215 else 2147483647
theorem holds_any (size : Int) (hs : size = 2 ∨ size = 3 ∨ size = 4) (w : World) : Calls Tryz.prog 51 #[.int .i64 size] w fun e w' => e = .returned (.int .i64 (most size)) ∧ w = w' := by
  rcases hs with rfl | rfl | rfl
  all_goals
    go_enter Tryz.func51, Tryz.ntmps51
    go_wp2
    go_ret
    exact ⟨rfl, rfl⟩
theorem big_bad (n size : Int) (hs : size = 2 ∨ size = 3 ∨ size = 4) (h : n < 0 ∨ most size < n) (w : World) :
    Calls Tryz.prog 42 #[.int .i64 n, .int .i64 size] w fun e w' => e = .returned (.tuple #[.slice none 0 0, .iface 83 (.int .i64 1)]) ∧ w = w' := by
  have HH := Lib.hid (holds_any size hs)
  by_cases h0 : n < 0
  · rcases hs with rfl | rfl | rfl
    all_goals
      go_enter Tryz.func42, Tryz.ntmps42
      go_wp2_with (go_at_call 51; refine (HH.out _).mono ?_; rintro e w' ⟨rfl, rfl⟩)
      go_ret2
      exact ⟨rfl, rfl⟩
  · have h1 : most size < n := by omega
    clear h
    generalize hm : most size = m at *
    clear hm
    rcases hs with rfl | rfl | rfl
    all_goals
      go_enter Tryz.func42, Tryz.ntmps42
      go_wp2_with (go_at_call 51; refine (HH.out _).mono ?_; rintro e w' ⟨rfl, rfl⟩)
      go_ret2
      exact ⟨rfl, rfl⟩
theorem make_n (k : Nat) (hk : k = 2 ∨ k = 3 ∨ k = 4) (w : World) : (Instr.makeSlice 30 (.int .i64 (k : Int)) (.int .i64 (k : Int))).run Tryz.prog w =
    .ok (.slice (some ⟨w.heap.size, 0, none⟩) k k) (w.alloc (.cells (Array.replicate k (.int .u8 0)) 5)) := by
  rcases hk with rfl | rfl | rfl
  all_goals kernel_rfl
set_option maxHeartbeats 1000000 in
theorem big_ok2 (n : Int) (h0 : 0 ≤ n) (h1 : n ≤ 65535) (w : World) :
    Calls Tryz.prog 42 #[.int .i64 n, .int .i64 2] w fun e w' => e = .returned (.tuple #[.slice (some ⟨w.heap.size, 0, none⟩) 2 2, .nilIface]) ∧ w.alloc (.cells #[.int .u8 (n / 256), .int .u8 (n % 256)] 5) = w' := by
  have HH := Lib.hid (holds_any 2 (by omega))
  have hm : most 2 = 65535 := rfl
  rw [hm] at HH
  clear hm
  have hmk := make_n 2 (by omega)
  simp only [Int.cast_ofNat_Int, Array.replicate] at hmk
  go_enter Tryz.func42, Tryz.ntmps42
  go_wp2_with (go_at_call 51; refine (HH.out _).mono ?_; rintro e w' ⟨rfl, rfl⟩)
  go_rounds 3
  go_ret2
  exact ⟨rfl, rfl⟩
set_option maxHeartbeats 1000000 in
theorem big_ok3 (n : Int) (h0 : 0 ≤ n) (h1 : n ≤ 16777215) (w : World) :
    Calls Tryz.prog 42 #[.int .i64 n, .int .i64 3] w fun e w' => e = .returned (.tuple #[.slice (some ⟨w.heap.size, 0, none⟩) 3 3, .nilIface]) ∧ w.alloc (.cells #[.int .u8 (n / 65536), .int .u8 (n / 256 % 256), .int .u8 (n % 256)] 5) = w' := by
  have HH := Lib.hid (holds_any 3 (by omega))
  have hm : most 3 = 16777215 := rfl
  rw [hm] at HH
  clear hm
  have hmk := make_n 3 (by omega)
  simp only [Int.cast_ofNat_Int, Array.replicate] at hmk
  go_enter Tryz.func42, Tryz.ntmps42
  go_wp2_with (go_at_call 51; refine (HH.out _).mono ?_; rintro e w' ⟨rfl, rfl⟩)
  go_rounds 4
  go_ret2
  exact ⟨rfl, rfl⟩
set_option maxHeartbeats 1000000 in
theorem big_ok4 (n : Int) (h0 : 0 ≤ n) (h1 : n ≤ 2147483647) (w : World) :
    Calls Tryz.prog 42 #[.int .i64 n, .int .i64 4] w fun e w' => e = .returned (.tuple #[.slice (some ⟨w.heap.size, 0, none⟩) 4 4, .nilIface]) ∧ w.alloc (.cells #[.int .u8 (n / 16777216), .int .u8 (n / 65536 % 256), .int .u8 (n / 256 % 256), .int .u8 (n % 256)] 5) = w' := by
  have HH := Lib.hid (holds_any 4 (by omega))
  have hm : most 4 = 2147483647 := rfl
  rw [hm] at HH
  clear hm
  have hmk := make_n 4 (by omega)
  simp only [Int.cast_ofNat_Int, Array.replicate] at hmk
  go_enter Tryz.func42, Tryz.ntmps42
  go_wp2_with (go_at_call 51; refine (HH.out _).mono ?_; rintro e w' ⟨rfl, rfl⟩)
  go_rounds 5
  go_ret2
  exact ⟨rfl, rfl⟩
/-- The bytes of a number, the high ones first. -/
def bigL (n size : Int) : List Int := if size = 2 then [n / 256, n % 256] else if size = 3 then [n / 65536, n / 256 % 256, n % 256] else [n / 16777216, n / 65536 % 256, n / 256 % 256, n % 256]
theorem bigL_len (n size : Int) (hs : size = 2 ∨ size = 3 ∨ size = 4) : (bigL n size).length = size.toNat := by rcases hs with rfl | rfl | rfl <;> rfl
theorem bigL_bd (n size : Int) (hs : size = 2 ∨ size = 3 ∨ size = 4) (h0 : 0 ≤ n) (h1 : n ≤ most size) : ∀ z ∈ bigL n size, 0 ≤ z ∧ z ≤ 255 := by
  rcases hs with rfl | rfl | rfl
  all_goals
    simp [most] at h1
    simp [bigL]
    omega
theorem big_any (n size : Int) (hs : size = 2 ∨ size = 3 ∨ size = 4) (w : World) :
    Calls Tryz.prog 42 #[.int .i64 n, .int .i64 size] w fun e w' =>
      ((n < 0 ∨ most size < n) ∧ e = .returned (.tuple #[.slice none 0 0, .iface 83 (.int .i64 1)]) ∧ w = w') ∨
      ((0 ≤ n ∧ n ≤ most size) ∧ ∃ g, w.heap.size = g ∧ e = .returned (.tuple #[.slice (some ⟨g, 0, none⟩) size.toNat size.toNat, .nilIface]) ∧ BytesL.Own w' w.heap.size (.slice (some ⟨g, 0, none⟩) size.toNat size.toNat) (bigL n size) ∧ Below w.heap.size w w' ∧ w'.heap.size = w.heap.size + 1) := by
  by_cases h : n < 0 ∨ most size < n
  · exact (big_bad n size hs h w).mono fun e w' hh => .inl ⟨h, hh.1, hh.2⟩
  · have h' : 0 ≤ n ∧ n ≤ most size := by omega
    rcases hs with rfl | rfl | rfl
    · refine (big_ok2 n h'.1 h'.2 w).mono fun e w' hh => .inr ⟨h', _, rfl, hh.1, ?_, ?_, ?_⟩ <;> rw [← hh.2]
      · exact World.ownsRow_lit _ _ 2 (Nat.le_refl _) (by decide) rfl
      · exact (Below.refl _ _).alloc (Nat.le_refl _) _
      · simp
    · refine (big_ok3 n h'.1 h'.2 w).mono fun e w' hh => .inr ⟨h', _, rfl, hh.1, ?_, ?_, ?_⟩ <;> rw [← hh.2]
      · exact World.ownsRow_lit _ _ 3 (Nat.le_refl _) (by decide) rfl
      · exact (Below.refl _ _).alloc (Nat.le_refl _) _
      · simp
    · refine (big_ok4 n h'.1 h'.2 w).mono fun e w' hh => .inr ⟨h', _, rfl, hh.1, ?_, ?_, ?_⟩ <;> rw [← hh.2]
      · exact World.ownsRow_lit _ _ 4 (Nat.le_refl _) (by decide) rfl
      · exact (Below.refl _ _).alloc (Nat.le_refl _) _
      · simp
/-- The number that bytes are. -/
def numL (l : List Int) : Int := l.foldl (fun n c => n * 256 + c) 0
theorem numL_snoc (l : List Int) (c : Int) : numL (l ++ [c]) = numL l * 256 + c := by simp [numL]
theorem numL_take (l : List Int) (h : ∀ z ∈ l, 0 ≤ z ∧ z ≤ 255) (k : Nat) : k ≤ l.length → 0 ≤ numL (l.take k) ∧ numL (l.take k) < 256 ^ k := by
  induction k with
  | zero => intro _; simp [numL]
  | succ k ih =>
    intro hk
    rw [take_snoc l k (by omega), numL_snoc, Int.pow_succ]
    have h1 := ih (by omega)
    have h2 := getD_bd h k
    omega
set_option maxHeartbeats 1000000 in
theorem read_short (v : Value) (l : List Int) (size : Int) (hs : size = 2 ∨ size = 3 ∨ size = 4) (w : World) (h : BytesAt w v l) (hl : (l.length : Int) < size) :
    Calls Tryz.prog 18 #[v, .int .i64 size] w fun e w' => e = .returned (.tuple #[.int .i64 0, .iface 83 (.int .i64 8)]) ∧ w = w' := by
  obtain ⟨a, cap, rfl, h1, h2, _, _⟩ := h.open
  have hs1 : 2 ≤ size := by omega
  have hs2 : size ≤ 4 := by omega
  clear hs
  generalize l.length = n at *
  go_enter Tryz.func18, Tryz.ntmps18
  go_wp2
  go_ret2
  exact ⟨rfl, rfl⟩
set_option maxHeartbeats 2000000 in
theorem read_any (v : Value) (l : List Int) (size : Int) (hs : size = 2 ∨ size = 3 ∨ size = 4) (w : World) (h : BytesAt w v l) (hb : ∀ z ∈ l, 0 ≤ z ∧ z ≤ 255) (hl : size ≤ (l.length : Int)) :
    Calls Tryz.prog 18 #[v, .int .i64 size] w fun e w' => w = w' ∧
      ((numL (l.take size.toNat) ≤ most size ∧ e = .returned (.tuple #[.int .i64 (numL (l.take size.toNat)), .nilIface])) ∨
       (most size < numL (l.take size.toNat) ∧ e = .returned (.tuple #[.int .i64 0, .iface 83 (.int .i64 10)]))) := by
  have hh := holds_any size hs
  have HH := Lib.hid hh
  obtain ⟨a, cap, rfl, h1, h2, h3, hel⟩ := h.open
  have HEL := Lib.hid hel
  have HB := Lib.hid hb
  have hs1 : 2 ≤ size := by omega
  have hs2 : size ≤ 4 := by omega
  obtain ⟨s, rfl⟩ := Int.eq_ofNat_of_zero_le (show 0 ≤ size by omega)
  rw [Int.toNat_natCast]
  have hmost : most (s : Int) ≤ 2147483647 := by unfold most; split <;> (try split) <;> omega
  have HLL : Hid (l.length = l.length) := rfl
  clear hs hh h hel hb
  obtain ⟨b0, off0, rfl, hb0, _⟩ := HEL.out 0 (by omega)
  generalize hn : l.length = n at *
  have HN := Lib.hid hn
  clear hn HLL
  generalize most (s : Int) = m at *
  go_enter Tryz.func18, Tryz.ntmps18
  go_wp2
  go_loop [6, 27] (fun t i => ∃ k : Nat, k ≤ s ∧ i = .int .i64 k ∧ t = .int .i64 (numL (l.take k))) (fun _ i => s - (intOf i).toNat)
  case atStart => exact ⟨0, Nat.zero_le _, rfl, rfl⟩
  case round =>
    obtain ⟨k, hk, rfl, rfl⟩ := hrel
    have hbd := numL_take l HB.out k (by rw [HN.out]; omega)
    by_cases hlt : k < s
    · obtain ⟨b1, off1, he, hb1, hc⟩ := HEL.out k (by omega)
      simp only [Option.some.injEq, Addr.mk.injEq, and_true] at he
      obtain ⟨rfl, rfl⟩ := he
      have HS := Lib.hid (take_snoc l k (by rw [HN.out]; omega))
      have hcb := getD_bd HB.out k
      have hpow : (256 : Int) ^ k ≤ 16777216 := by
        obtain rfl | rfl | rfl | rfl : k = 0 ∨ k = 1 ∨ k = 2 ∨ k = 3 := by omega
        all_goals decide
      obtain ⟨hbd1, hbd2⟩ := hbd
      obtain ⟨hcb1, hcb2⟩ := hcb
      have hbd3 : numL (l.take k) < 16777216 := by omega
      have HNS := Lib.hid (numL_snoc (l.take k) (l.getD k 0))
      clear hbd2 hpow
      generalize numL (l.take k) = x at *
      generalize l.getD k 0 = c at *
      have hj := BitsL.join_i64 8 (x * 256) c (by omega) (by omega) (by omega) (by omega) (by omega) (by omega)
      go_wp2
      go_round
      case rel => exact ⟨k + 1, by omega, by go_num, by rw [HS.out, HNS.out]⟩
      case measure => simp [intOf]; omega
    · obtain rfl : k = s := by omega
      clear hbd
      generalize hx0 : numL (l.take k) = x at *
      have HX := Lib.hid hx0
      clear hx0
      by_cases hx : m < x
      all_goals
        go_wp2_with (go_at_call 51; refine (HH.out _).mono ?_; rintro e w' ⟨rfl, rfl⟩)
        go_ret2
      · rw [HX.out]; exact ⟨rfl, .inr ⟨hx, rfl⟩⟩
      · rw [HX.out]; exact ⟨rfl, .inl ⟨by omega, rfl⟩⟩
end Go.Proofs.YtegngpingfjedaaGreatDoor.WireBig
