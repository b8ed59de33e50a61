/-
  What an entry is as text, and what a text is as an entry, in plain Lean.
  Conditions: none.
-/
import Derived.Test.YteadmakhcpjpnaaDoorSplitJoin
import Derived.Test.YteadmakhcpjpnaaDoorLineC
namespace Go.Proofs.YteadmakhcpjpnaaDoor.LogP
open Go.Lib LineC
set_option linter.unusedVariables false
set_option linter.unusedSimpArgs false

structure En where
  time : Int
  code : Int
  bytes : Int
  took : Int
  method : ByteArray
  path : ByteArray
deriving DecidableEq
def numB (n : Int) : Bool := decide (0 ≤ n ∧ n ≤ 1000000)
def rangeE (e : En) : Bool := numB e.time && numB e.bytes && numB e.took && decide (100 ≤ e.code ∧ e.code ≤ 599)
/-- What is wrong with an entry; 0: nothing. -/
def checkE (e : En) : Int := if rangeE e then (if tokL e.method.data.toList && wordL e.path.data.toList then 0 else 2) else 1
def partsE (e : En) : List (List UInt8) := [itoa e.time, itoa e.code, itoa e.bytes, itoa e.took, e.method.data.toList, e.path.data.toList]
def writeE (e : En) : List UInt8 := join (partsE e) [32]
def entryOf (l : List ByteArray) : Option En :=
  match l with
  | [p0, p1, p2, p3, m, p] => some ⟨atoiV p0.data.toList, atoiV p1.data.toList, atoiV p2.data.toList, atoiV p3.data.toList, m, p⟩
  | _ => none
def sepB : ByteArray := ⟨#[32]⟩
def wordsOf (s : ByteArray) : List ByteArray := splitB sepB 0 (countB s sepB) s
/-- The entry of a text. -/
def parseS (s : ByteArray) : Option En := match entryOf (wordsOf s) with
  | some e => if checkE e = 0 ∧ writeE e = s.data.toList then some e else none
  | none => none
theorem words_data (s : ByteArray) : (wordsOf s).map (·.data.toList) = split s.data.toList [32] := by
  unfold wordsOf split
  rw [splitB_data]
  rfl
theorem words_len (s : ByteArray) : (wordsOf s).length = countB s sepB + 1 := splitB_all sepB (by decide) 0 _ s rfl
theorem joinTail_ge (c : UInt8) : ∀ (r : List (List UInt8)) (p : List UInt8), p ∈ r → p.length ≤ (joinTail [c] r).length
  | [], p, h => absurd h (by simp)
  | y :: r, p, h => by
    simp only [joinTail, List.map_cons, List.flatten_cons, List.length_append]
    rcases List.mem_cons.1 h with rfl | h
    · omega
    · have := joinTail_ge c r p h
      simp only [joinTail] at this
      omega
theorem join_ge (c : UInt8) : ∀ (ps : List (List UInt8)) (p : List UInt8), p ∈ ps → p.length ≤ (join ps [c]).length
  | [], p, h => absurd h (by simp)
  | x :: r, p, h => by
    rw [join_cons, List.length_append]
    rcases List.mem_cons.1 h with rfl | h
    · omega
    · have := joinTail_ge c r p h
      omega
theorem piece_le (s x : ByteArray) (h : x ∈ wordsOf s) : x.size ≤ s.size := by
  have hm : x.data.toList ∈ split s.data.toList [32] := by
    rw [← words_data]
    exact List.mem_map.2 ⟨x, h, rfl⟩
  have h1 := join_ge 32 _ _ hm
  rw [(join_split 32 _ _ (Nat.le_refl _)).1] at h1
  rw [size_list, size_list]
  exact h1
theorem words_le (s : ByteArray) : (wordsOf s).length ≤ s.size + 1 := by
  rw [words_len]
  have := countB_le sepB (by decide) s.size s (Nat.le_refl _)
  omega
theorem rangeE_bd {e : En} (h : rangeE e = true) : (0 ≤ e.time ∧ e.time ≤ 1000000) ∧ (0 ≤ e.code ∧ e.code ≤ 1000000) ∧ (0 ≤ e.bytes ∧ e.bytes ≤ 1000000) ∧ (0 ≤ e.took ∧ e.took ≤ 1000000) := by
  simp only [rangeE, numB, Bool.and_eq_true, decide_eq_true_eq] at h
  omega
theorem check_parts {e : En} (h : checkE e = 0) : rangeE e = true ∧ tokL e.method.data.toList = true ∧ wordL e.path.data.toList = true := by
  unfold checkE at h
  by_cases h1 : rangeE e = true
  · rw [if_pos h1] at h
    by_cases h2 : (tokL e.method.data.toList && wordL e.path.data.toList) = true
    · rw [Bool.and_eq_true] at h2
      exact ⟨h1, h2⟩
    · rw [if_neg h2] at h; omega
  · rw [if_neg h1] at h; omega
theorem tok_blank {l : List UInt8} (h : tokL l = true) : (32 : UInt8) ∉ l := by
  intro hm
  simp only [tokL, Bool.and_eq_true, List.all_eq_true] at h
  have := h.2 32 hm
  revert this
  decide
theorem word_blank {l : List UInt8} (h : wordL l = true) : (32 : UInt8) ∉ l := by
  intro hm
  simp only [wordL, Bool.and_eq_true, Bool.not_eq_true', List.contains_eq_mem, decide_eq_false_iff_not] at h
  exact h.2 hm
theorem parts_blank {e : En} (h : checkE e = 0) : ∀ p ∈ partsE e, (32 : UInt8) ∉ p := by
  obtain ⟨h1, h2, h3⟩ := check_parts h
  obtain ⟨b1, b2, b3, b4⟩ := rangeE_bd h1
  intro p hp
  simp only [partsE, List.mem_cons, List.not_mem_nil, or_false] at hp
  rcases hp with rfl | rfl | rfl | rfl | rfl | rfl
  · exact itoa_blank _ b1.1
  · exact itoa_blank _ b2.1
  · exact itoa_blank _ b3.1
  · exact itoa_blank _ b4.1
  · exact tok_blank h2
  · exact word_blank h3
theorem ba_eq {a b : ByteArray} (h : a.data.toList = b.data.toList) : a = b := by
  obtain ⟨⟨a⟩⟩ := a
  obtain ⟨⟨b⟩⟩ := b
  simp only at h
  rw [h]
/-- What is written is read as it was. -/
theorem parse_write (e : En) (h : checkE e = 0) (s : ByteArray) (hs : s.data.toList = writeE e) : parseS s = some e := by
  obtain ⟨h1, h2, h3⟩ := check_parts h
  obtain ⟨b1, b2, b3, b4⟩ := rangeE_bd h1
  have hw := words_data s
  rw [hs, show writeE e = join (partsE e) [32] from rfl, split_join 32 (partsE e) (by simp [partsE]) (parts_blank h)] at hw
  have hl : (wordsOf s).length = 6 := by
    have := congrArg List.length hw
    simpa [partsE] using this
  obtain ⟨p0, p1, p2, p3, m, p, hp⟩ : ∃ p0 p1 p2 p3 m p, wordsOf s = [p0, p1, p2, p3, m, p] := by
    match wordsOf s, hl with
    | [p0, p1, p2, p3, m, p], _ => exact ⟨p0, p1, p2, p3, m, p, rfl⟩
  rw [hp] at hw
  simp only [List.map_cons, List.map_nil, partsE, List.cons.injEq, and_true] at hw
  obtain ⟨e0, e1, e2, e3, e4, e5⟩ := hw
  have he : entryOf (wordsOf s) = some e := by
    rw [hp]
    simp only [entryOf, e0, e1, e2, e3]
    rw [atoi_itoa _ b1.1 (by omega), atoi_itoa _ b2.1 (by omega), atoi_itoa _ b3.1 (by omega), atoi_itoa _ b4.1 (by omega), ba_eq e4, ba_eq e5]
  unfold parseS
  rw [he]
  simp only
  rw [if_pos ⟨h, hs.symm⟩]
/-- What is read is right, and written as it was. -/
theorem parse_some {s : ByteArray} {e : En} (h : parseS s = some e) : checkE e = 0 ∧ writeE e = s.data.toList := by
  unfold parseS at h
  split at h
  · split at h
    · rename_i h1
      cases h
      exact h1
    · cases h
  · cases h
theorem write_len {e : En} (h : checkE e = 0) : (writeE e).length ≤ 900 := by
  obtain ⟨h1, h2, h3⟩ := check_parts h
  obtain ⟨b1, b2, b3, b4⟩ := rangeE_bd h1
  have hd : ∀ n : Int, 0 ≤ n → n ≤ 1000000 → (itoa n).length ≤ 7 := fun n h0 hn => by
    obtain ⟨m, rfl⟩ := Int.eq_ofNat_of_zero_le h0
    have e : itoa (m : Int) = decDigits m := by simp [itoa]
    rw [e]
    exact digits_len 6 m (by omega)
  have d1 := hd _ b1.1 b1.2
  have d2 := hd _ b2.1 b2.2
  have d3 := hd _ b3.1 b3.2
  have d4 := hd _ b4.1 b4.2
  have t : e.method.data.toList.length ≤ 400 := by
    simp only [tokL, Bool.and_eq_true, decide_eq_true_eq] at h2
    exact h2.1.2
  have p : e.path.data.toList.length ≤ 400 := by
    simp only [wordL, plainL, Bool.and_eq_true, decide_eq_true_eq] at h3
    exact h3.1.2.1.1.1
  unfold writeE partsE
  rw [join_cons]
  simp only [joinTail, List.map_cons, List.map_nil, List.flatten_cons, List.flatten_nil, List.length_append, List.length_cons, List.length_nil]
  omega
end Go.Proofs.YteadmakhcpjpnaaDoor.LogP
