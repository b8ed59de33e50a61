/-
  The reference's reading of an entry is the program's reading. Plain: no program.
  Conditions: none.
-/
import Derived.Test.YtcpkikillmmjcaaGreatDoorLogP
import Derived.Test.YtcpkikillmmjcaaGreatDoorDigitsP
namespace Go.Proofs.YtcpkikillmmjcaaGreatDoor.LogP
open Go.Lib LineC
set_option linter.unusedVariables false
set_option linter.unusedSimpArgs false

/-- The entry of a text's words, by the document's numbers. -/
def entryR (l : List ByteArray) : Option En :=
  match l with
  | [p0, p1, p2, p3, m, p] => some ⟨numD p0.data.toList, numD p1.data.toList, numD p2.data.toList, numD p3.data.toList, m, p⟩
  | _ => none
/-- The reference's entry of a text. -/
def refParse (s : ByteArray) : Option En := match entryR (wordsOf s) with
  | some e => if checkE e = 0 then some e else none
  | none => none
theorem num_words {s p0 p1 p2 p3 m p : ByteArray} (hp : wordsOf s = [p0, p1, p2, p3, m, p]) {e : En} (h : checkE e = 0) (hs : writeE e = s.data.toList) :
    e = ⟨numD p0.data.toList, numD p1.data.toList, numD p2.data.toList, numD p3.data.toList, m, p⟩ := by
  obtain ⟨h1, h2, h3⟩ := check_parts h
  obtain ⟨b1, b2, b3, b4⟩ := rangeE_bd h1
  have hw := words_data s
  rw [← hs, show writeE e = join (partsE e) [32] from rfl, split_join 32 (partsE e) (by simp [partsE]) (parts_blank h), hp] at hw
  simp only [List.map_cons, List.map_nil, partsE, List.cons.injEq, and_true] at hw
  obtain ⟨e0, e1, e2, e3, e4, e5⟩ := hw
  rw [e0, e1, e2, e3, num_itoa _ b1.1 b1.2, num_itoa _ b2.1 b2.2, num_itoa _ b3.1 b3.2, num_itoa _ b4.1 b4.2, ba_eq e4, ba_eq e5]
theorem ref_parse (s : ByteArray) : refParse s = parseS s := by
  unfold refParse parseS
  match hp : wordsOf s with
  | [p0, p1, p2, p3, m, p] =>
    simp only [entryR, entryOf]
    by_cases h : checkE ⟨numD p0.data.toList, numD p1.data.toList, numD p2.data.toList, numD p3.data.toList, m, p⟩ = 0
    · rw [if_pos h]
      obtain ⟨h1, h2, h3⟩ := check_parts h
      obtain ⟨b1, b2, b3, b4⟩ := rangeE_bd h1
      simp only at b1 b2 b3 b4
      have a0 := itoa_num _ b1.1
      have a1 := itoa_num _ b2.1
      have a2 := itoa_num _ b3.1
      have a3 := itoa_num _ b4.1
      have k0 : atoiV p0.data.toList = numD p0.data.toList := by
        have := atoi_itoa _ b1.1 (by omega)
        rwa [← a0] at this
      have k1 : atoiV p1.data.toList = numD p1.data.toList := by
        have := atoi_itoa _ b2.1 (by omega)
        rwa [← a1] at this
      have k2 : atoiV p2.data.toList = numD p2.data.toList := by
        have := atoi_itoa _ b3.1 (by omega)
        rwa [← a2] at this
      have k3 : atoiV p3.data.toList = numD p3.data.toList := by
        have := atoi_itoa _ b4.1 (by omega)
        rwa [← a3] at this
      rw [k0, k1, k2, k3, if_pos]
      refine ⟨h, ?_⟩
      have hw := words_data s
      rw [hp] at hw
      simp only [List.map_cons, List.map_nil] at hw
      unfold writeE partsE
      simp only
      rw [← a0, ← a1, ← a2, ← a3, hw]
      exact (join_split 32 _ _ (Nat.le_refl _)).1
    · rw [if_neg h, if_neg]
      rintro ⟨c1, c2⟩
      have := num_words hp c1 c2
      rw [← this] at h
      exact h c1
  | [] => rfl
  | [_] => rfl
  | [_, _] => rfl
  | [_, _, _] => rfl
  | [_, _, _, _] => rfl
  | [_, _, _, _, _] => rfl
  | _ :: _ :: _ :: _ :: _ :: _ :: _ :: _ => rfl
/-- A word cut off by a blank, behind the words ahead of it. -/
theorem split_snoc (c : UInt8) : ∀ (n : Nat) (s r : List UInt8), s.length ≤ n → split (s ++ c :: r) [c] = split s [c] ++ split r [c] := by
  intro n
  induction n with
  | zero =>
    intro s r h
    have : s = [] := List.eq_nil_of_length_eq_zero (by omega)
    subst this
    rw [split_cons [] r c (by simp), split_last [] c (by simp)]
    rfl
  | succ n ih =>
    intro s r h
    by_cases hm : c ∈ s
    · obtain ⟨p, q, rfl, hc⟩ := mem_first hm
      rw [List.append_assoc, List.cons_append, split_cons p _ c hc, split_cons p q c hc, ih q r (by simp at h; omega)]
      rfl
    · rw [split_cons s r c hm, split_last s c hm]
      rfl
end Go.Proofs.YtcpkikillmmjcaaGreatDoor.LogP
