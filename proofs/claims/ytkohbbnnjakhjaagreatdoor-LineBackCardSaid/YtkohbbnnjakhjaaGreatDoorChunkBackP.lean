/-
  What is written in pieces is read as it was; cut off anywhere it is short: plain Lean.
-/
import Derived.Test.YtkohbbnnjakhjaaGreatDoorChunkSpec
import Derived.Test.YtkohbbnnjakhjaaGreatDoorChunkEnc
namespace Go.Proofs.YtkohbbnnjakhjaaGreatDoor.ChunkD
open HexC ChunkC
set_option linter.unusedVariables false
set_option linter.unusedSimpArgs false

theorem drop_cons {b r : List Int} {z : Int} {p : Nat} (h : b.drop p = z :: r) : p < b.length ∧ b.getD p 0 = z ∧ b.drop (p + 1) = r := by
  have h1 : p < b.length := by
    rcases Nat.lt_or_ge p b.length with h1 | h1
    · exact h1
    · rw [List.drop_of_length_le h1] at h; cases h
  rw [List.drop_eq_getElem_cons h1] at h
  simp only [List.cons.injEq] at h
  exact ⟨h1, by rw [List.getD_eq_getElem?_getD, List.getElem?_eq_getElem h1]; exact h.1, h.2⟩
theorem drop_app {b l r : List Int} {p : Nat} (h : b.drop p = l ++ r) : b.drop (p + l.length) = r := by
  rw [← List.drop_drop, h, List.drop_left]
theorem drop_nil {b : List Int} {p : Nat} (h : b.drop p = []) : b.length ≤ p := by
  have := congrArg List.length h
  simp only [List.length_drop, List.length_nil] at this
  omega
theorem drop_len {b l r : List Int} {p : Nat} (h : b.drop p = l ++ r) : l.length + r.length = b.length - p := by
  have := congrArg List.length h
  simp only [List.length_drop, List.length_append] at this
  omega
theorem dg_dig {m : Nat} (h : m < 16) : dg (dig m) = m := by
  unfold dg dig
  split <;> split <;> (try split) <;> omega
theorem num_hex {b : List Int} {st most : Nat} : ∀ m f rest, m ≤ most → b.drop st = hexL m ++ rest → num b st most (f + (hexL m).length) st 0 = num b st most f (st + (hexL m).length) m := by
  intro m
  induction m using Nat.strongRecOn with
  | ind m ih =>
    intro f rest hm h
    by_cases hs : m < 16
    · rw [hexL_small hs] at h ⊢
      obtain ⟨h1, h2, _⟩ := drop_cons h
      have h3 := dg_dig hs
      rw [List.length_singleton, num_step h1 (by rw [h2, h3]; omega) (by omega) (by rw [h2, h3]; simp; omega), h2, h3]
      simp
    · have hsp : 1 ≤ m / 16 := by omega
      rw [hexL_big hs] at h ⊢
      rw [List.append_assoc] at h
      have h0 := ih (m / 16) (by omega) (f + 1) _ (by omega) h
      rw [List.length_append, List.length_singleton]
      have e : f + ((hexL (m / 16)).length + 1) = f + 1 + (hexL (m / 16)).length := by omega
      rw [e, h0]
      obtain ⟨h1, h2, _⟩ := drop_cons (drop_app h)
      have h3 := dg_dig (m := m % 16) (by omega)
      rw [num_step h1 (by rw [h2, h3]; omega) (by omega) (by rw [h2, h3]; simp; omega), h2, h3]
      rw [Int.toNat_natCast, show 16 * (m / 16) + m % 16 = m by omega, Nat.add_assoc]
theorem num_cut {b : List Int} {st most : Nat} : ∀ m f c, m ≤ most → c ≤ (hexL m).length → b.drop st = (hexL m).take c → num b st most (f + 1 + c) st 0 = (0, 0, 8) := by
  intro m
  induction m using Nat.strongRecOn with
  | ind m ih =>
    intro f c hm hc h
    by_cases hfull : c = (hexL m).length
    · subst hfull
      have h' : b.drop st = hexL m ++ [] := by rw [h, List.take_length, List.append_nil]
      rw [num_hex m (f + 1) [] hm h']
      exact num_short (drop_nil (drop_app h'))
    · by_cases hs : m < 16
      · rw [hexL_small hs] at h hc hfull
        rw [List.length_singleton] at hc hfull
        obtain rfl : c = 0 := by omega
        rw [List.take_zero] at h
        exact num_short (drop_nil h)
      · rw [hexL_big hs] at h hc hfull
        rw [List.length_append, List.length_singleton] at hc hfull
        refine ih (m / 16) (by omega) f c (by omega) (by omega) ?_
        rw [h, List.take_append_of_le_length (by omega)]
theorem mt_crlf {b rest : List Int} {p : Nat} (h : b.drop p = 13 :: 10 :: rest) : mt b [13, 10] p = (p + 2, 0) := by
  obtain ⟨h1, h2, h3⟩ := drop_cons h
  obtain ⟨h4, h5, h6⟩ := drop_cons h3
  rw [mt_step h1 h2, mt_step h4 h5]
  rfl
theorem mt_cut {b : List Int} {p c : Nat} (hc : c < 2) (h : b.drop p = [13, 10].take c) : mt b [13, 10] p = (0, 8) := by
  obtain rfl | rfl : c = 0 ∨ c = 1 := by omega
  · exact mt_short (drop_nil h)
  · obtain ⟨h1, h2, h3⟩ := drop_cons h
    rw [mt_step h1 h2, mt_short (drop_nil h3)]
/-- One piece's bytes, whatever stands behind. -/
theorem head_ok {b l rest : List Int} {p most : Nat} (hm : l.length ≤ most) (h : b.drop p = hexL l.length ++ ([13, 10] ++ (l ++ ([13, 10] ++ rest)))) :
    num b p most (b.length + 1) p 0 = (l.length, p + (hexL l.length).length, 0) ∧ mt b [13, 10] (p + (hexL l.length).length) = (p + (hexL l.length).length + 2, 0) ∧
    (b.drop (p + (hexL l.length).length + 2)).take l.length = l ∧ mt b [13, 10] (p + (hexL l.length).length + 2 + l.length) = (p + (enc1 l).length, 0) ∧ b.drop (p + (enc1 l).length) = rest := by
  have h1 := drop_app h
  have h2 : b.drop (p + (hexL l.length).length + 2) = l ++ ([13, 10] ++ rest) := drop_app h1
  have h3 := drop_app h2
  have h4 : b.drop (p + (hexL l.length).length + 2 + l.length + 2) = rest := drop_app h3
  have e : p + (enc1 l).length = p + (hexL l.length).length + 2 + l.length + 2 := by
    simp only [enc1, List.length_append, List.length_cons, List.length_nil]; omega
  obtain ⟨q1, q2, q3⟩ := drop_cons h1
  have hl := drop_len h
  obtain ⟨f, hf⟩ : ∃ f, b.length + 1 = f + 1 + (hexL l.length).length := ⟨b.length - (hexL l.length).length, by
    simp only [List.length_append, List.length_cons, List.length_nil] at hl; omega⟩
  refine ⟨?_, mt_crlf h1, ?_, ?_, by rw [e]; exact h4⟩
  · rw [hf, num_hex l.length (f + 1) _ hm h]
    have hp : 1 ≤ (hexL l.length).length := by
      by_cases hs : l.length < 16
      · rw [hexL_small hs]; simp
      · rw [hexL_big hs]; simp
    exact num_end q1 (by rw [q2]; decide) (by omega)
  · rw [h2, List.take_left]
  · rw [e]; exact mt_crlf h3
theorem tail_is : tail5 = hexL ([] : List Int).length ++ ([13, 10] ++ (([] : List Int) ++ ([13, 10] ++ []))) := by
  rw [List.length_nil, hexL_small (by decide)]; rfl
theorem enc_is (l : List Int) (ls : List (List Int)) : encAll (l :: ls) ++ tail5 = hexL l.length ++ ([13, 10] ++ (l ++ ([13, 10] ++ (encAll ls ++ tail5)))) := by
  simp [encAll, enc1, List.append_assoc]
/-- What is written is read, whatever stands behind. -/
theorem dec_whole {b more : List Int} : ∀ (ls : List (List Int)) (f p : Nat) (body : List Int), (∀ l ∈ ls, l ≠ []) → body.length + ls.flatten.length ≤ 8000 → ls.length < f → b.drop p = (encAll ls ++ tail5) ++ more →
    dec b f p body = (body ++ ls.flatten, p + (encAll ls ++ tail5).length, 0) := by
  intro ls
  induction ls with
  | nil =>
    intro f p body _ hb hf h
    obtain ⟨f, rfl⟩ : ∃ f', f = f' + 1 := ⟨f - 1, by simp at hf; omega⟩
    have h' : b.drop p = hexL ([] : List Int).length ++ ([13, 10] ++ (([] : List Int) ++ ([13, 10] ++ more))) := by
      rw [h]; rw [tail_is]; simp [encAll]
    obtain ⟨h1, h2, h3, h4, h5⟩ := head_ok (most := 8000 - body.length) (by simp) h'
    rw [List.length_nil] at h1 h2 h4
    rw [dec_end h1 h2 h4]
    have e : (enc1 []).length = (encAll [] ++ tail5).length := by
      simp [enc1, encAll, tail5, hexL_small]
    rw [e]; simp
  | cons l ls ih =>
    intro f p body hne hb hf h
    obtain ⟨f, rfl⟩ : ∃ f', f = f' + 1 := ⟨f - 1, by simp at hf; omega⟩
    rw [List.flatten_cons, List.length_append] at hb
    have h' : b.drop p = hexL l.length ++ ([13, 10] ++ (l ++ ([13, 10] ++ ((encAll ls ++ tail5) ++ more)))) := by
      rw [h, enc_is]; simp [List.append_assoc]
    obtain ⟨h1, h2, h3, h4, h5⟩ := head_ok (most := 8000 - body.length) (by omega) h'
    have hl : l.length ≠ 0 := fun h0 => hne l (by simp) (List.eq_nil_of_length_eq_zero h0)
    rw [dec_step h1 h2 h4 hl, h3, ih f _ _ (fun x hx => hne x (by simp [hx])) (by rw [List.length_append]; omega) (by simp at hf; omega) h5]
    have e : (encAll (l :: ls) ++ tail5).length = (enc1 l).length + (encAll ls ++ tail5).length := by simp [encAll]
    rw [e, List.flatten_cons, List.append_assoc, Nat.add_assoc]
/-- One piece that is cut off. -/
theorem head_cut {b l rest : List Int} {p c f : Nat} {body : List Int} (hm : l.length ≤ 8000 - body.length) (h : b.drop p = (hexL l.length ++ ([13, 10] ++ (l ++ ([13, 10] ++ rest)))).take c) (hc : c < (enc1 l).length) : dec b (f + 1) p body = ([], 0, 8) := by
  have hx : (enc1 l).length = (hexL l.length).length + 2 + l.length + 2 := by
    simp only [enc1, List.length_append, List.length_cons, List.length_nil]
  rw [hx] at hc
  have hp : 1 ≤ (hexL l.length).length := by
    by_cases hs : l.length < 16
    · rw [hexL_small hs]; simp
    · rw [hexL_big hs]; simp
  have hlen := congrArg List.length h
  rw [List.length_drop, List.length_take] at hlen
  simp only [List.length_append, List.length_cons, List.length_nil] at hlen
  by_cases h1 : c ≤ (hexL l.length).length
  · rw [List.take_append_of_le_length h1] at h
    obtain ⟨g, hg⟩ : ∃ g, b.length + 1 = g + 1 + c := ⟨b.length - c, by omega⟩
    have hn := num_cut (st := p) (most := 8000 - body.length) l.length g c hm h1 h
    rw [← hg] at hn
    exact dec_num hn (by decide)
  · rw [List.take_append, List.take_of_length_le (by omega)] at h
    obtain ⟨c1, hc1⟩ : ∃ c1, c - (hexL l.length).length = c1 := ⟨_, rfl⟩
    rw [hc1] at h
    obtain ⟨g, hg⟩ : ∃ g, b.length + 1 = g + 1 + (hexL l.length).length := ⟨b.length - (hexL l.length).length, by omega⟩
    have hn := num_hex (most := 8000 - body.length) l.length (g + 1) _ hm h
    rw [← hg] at hn
    have hd := drop_app h
    have hne : num b p (8000 - body.length) (g + 1) (p + (hexL l.length).length) l.length = (l.length, p + (hexL l.length).length, 0) := by
      obtain ⟨c2, rfl⟩ : ∃ c2, c1 = c2 + 1 := ⟨c1 - 1, by omega⟩
      obtain ⟨q1, q2, _⟩ := drop_cons (r := ([10] ++ (l ++ ([13, 10] ++ rest))).take c2) (by rw [hd]; rfl)
      exact num_end q1 (by rw [q2]; decide) (by omega)
    rw [hne] at hn
    by_cases h2 : c1 < 2
    · rw [List.take_append_of_le_length (by simp; omega)] at hd
      exact dec_mt hn (mt_cut h2 hd) (by decide)
    · rw [List.take_append, List.take_of_length_le (by simp; omega)] at hd
      have hd2 := drop_app hd
      have hm1 := mt_crlf hd
      simp only [List.length_cons, List.length_nil] at hd2
      obtain ⟨c2, hc2⟩ : ∃ c2, c1 - 2 = c2 := ⟨_, rfl⟩
      rw [show c1 - (0 + 1 + 1) = c2 by omega] at hd2
      by_cases h3 : c2 ≤ l.length
      · rw [List.take_append_of_le_length h3] at hd2
        have hl2 := congrArg List.length hd2
        rw [List.length_drop, List.length_take] at hl2
        have hs : b.length ≤ p + (hexL l.length).length + 2 + l.length := by omega
        exact dec_mt2 hn hm1 (mt_short hs) (by decide)
      · rw [List.take_append, List.take_of_length_le (by omega)] at hd2
        have hd3 := drop_app hd2
        rw [List.take_append_of_le_length (by simp; omega)] at hd3
        exact dec_mt2 hn hm1 (mt_cut (by omega) hd3) (by decide)
/-- Cut off anywhere it is short. -/
theorem dec_cut {b : List Int} : ∀ (ls : List (List Int)) (f p c : Nat) (body : List Int), (∀ l ∈ ls, l ≠ []) → body.length + ls.flatten.length ≤ 8000 → c < f → c < (encAll ls ++ tail5).length → b.drop p = (encAll ls ++ tail5).take c →
    dec b f p body = ([], 0, 8) := by
  intro ls
  induction ls with
  | nil =>
    intro f p c body _ hb hf hc h
    obtain ⟨f, rfl⟩ : ∃ f', f = f' + 1 := ⟨f - 1, by omega⟩
    refine head_cut (l := []) (rest := []) (c := c) (by simp) ?_ (by simpa [encAll, tail5, enc1, hexL_small] using hc)
    rw [h, tail_is]; rfl
  | cons l ls ih =>
    intro f p c body hne hb hf hc h
    obtain ⟨f, rfl⟩ : ∃ f', f = f' + 1 := ⟨f - 1, by omega⟩
    rw [List.flatten_cons, List.length_append] at hb
    have e : (encAll (l :: ls) ++ tail5).length = (enc1 l).length + (encAll ls ++ tail5).length := by simp [encAll]
    by_cases h1 : c < (enc1 l).length
    · rw [enc_is] at h
      exact head_cut (by omega) h h1
    · have e2 : encAll (l :: ls) ++ tail5 = enc1 l ++ (encAll ls ++ tail5) := by simp [encAll]
      rw [e2, List.take_append, List.take_of_length_le (by omega)] at h
      have h' : b.drop p = hexL l.length ++ ([13, 10] ++ (l ++ ([13, 10] ++ ((encAll ls ++ tail5).take (c - (enc1 l).length))))) := by
        rw [h]; simp [enc1, List.append_assoc]
      obtain ⟨q1, q2, q3, q4, q5⟩ := head_ok (most := 8000 - body.length) (by omega) h'
      have hl : l.length ≠ 0 := fun h0 => hne l (by simp) (List.eq_nil_of_length_eq_zero h0)
      rw [dec_step q1 q2 q4 hl, q3]
      have h2 : 1 ≤ (enc1 l).length := by simp only [enc1, List.length_append, List.length_cons]; omega
      exact ih f _ (c - (enc1 l).length) _ (fun x hx => hne x (by simp [hx])) (by rw [List.length_append]; omega) (by omega) (by omega) q5
end Go.Proofs.YtkohbbnnjakhjaaGreatDoor.ChunkD
