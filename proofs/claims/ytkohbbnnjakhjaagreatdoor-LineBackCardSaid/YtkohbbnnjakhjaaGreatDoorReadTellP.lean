/-
  What is told as a reply is read as it was, whatever stands behind it; of a beginning there is more to come: plain Lean.
-/
import Derived.Test.YtkohbbnnjakhjaaGreatDoorReadFwd
import Derived.Test.YtkohbbnnjakhjaaGreatDoorTellLines
import Derived.Test.YtkohbbnnjakhjaaGreatDoorChunkBackP
namespace Go.Proofs.YtkohbbnnjakhjaaGreatDoor.ReadS
open ChunkD BA LineC LineM FieldRows ChunkC ChunkI
set_option linter.unusedVariables false
variable {b t : List Int}
theorem cdS_err {f i : Nat} {x : Nat × St} (h : x.2.2 ≠ 0) : cdS b f i x = x := by
  cases f with
  | zero => rfl
  | succ f => rw [cdS, if_pos h]
theorem cdS_short {f i : Nat} {x : Nat × St} (h : x.2.2 = 0) (h1 : b.length ≤ x.2.1) : cdS b (f + 1) i x = (x.1, x.2.1, 8) := by rw [cdS, if_neg (by omega), if_pos h1]
theorem cdS_syn {f i : Nat} {x : Nat × St} (h : x.2.2 = 0) (h1 : x.2.1 < b.length) (h2 : b.getD x.2.1 0 < 48 ∨ 57 < b.getD x.2.1 0 ∨ (i = 0 ∧ (b.getD x.2.1 0 = 48 ∨ 53 < b.getD x.2.1 0))) : cdS b (f + 1) i x = (x.1, x.2.1, 2) := by
  rw [cdS, if_neg (by omega), if_neg (by omega), if_pos h2]
theorem cdS_step {f i : Nat} {x : Nat × St} (h : x.2.2 = 0) (h1 : x.2.1 < b.length) (h2 : ¬ (b.getD x.2.1 0 < 48 ∨ 57 < b.getD x.2.1 0 ∨ (i = 0 ∧ (b.getD x.2.1 0 = 48 ∨ 53 < b.getD x.2.1 0)))) : cdS b (f + 1) i x = cdS b f (i + 1) (10 * x.1 + (b.getD x.2.1 0 - 48).toNat, x.2.1 + 1, 0) := by
  rw [cdS, if_neg (by omega), if_neg (by omega), if_neg h2]
theorem cdS_ok {f : Nat} : ∀ i x, Ok b x.2 → Ok b (cdS b f i x).2 := by
  induction f with
  | zero => intro i x h; exact h
  | succ f ih =>
    intro i x h
    by_cases h0 : x.2.2 = 0
    · by_cases h1 : b.length ≤ x.2.1
      · rw [cdS_short h0 h1]; intro h; cases h
      · by_cases h2 : b.getD x.2.1 0 < 48 ∨ 57 < b.getD x.2.1 0 ∨ (i = 0 ∧ (b.getD x.2.1 0 = 48 ∨ 53 < b.getD x.2.1 0))
        · rw [cdS_syn h0 (by omega) h2]; intro h; cases h
        · rw [cdS_step h0 (by omega) h2]
          exact ih _ _ (fun _ => by simp only; omega)
    · rw [cdS_err h0]; exact h
theorem cdS_pre {f : Nat} : ∀ i x' x, Ok b x'.2 → (x'.2.2 = 8 ∨ x = x') → (cdS b f i x').2.2 = 8 ∨ cdS (b ++ t) f i x = cdS b f i x' := by
  induction f with
  | zero => intro i x' x _ h; exact h
  | succ f ih =>
    intro i x' x hk h
    rcases h with h | rfl
    · left; rw [cdS_err (by omega)]; exact h
    · by_cases h0 : x.2.2 = 0
      · by_cases h1 : b.length ≤ x.2.1
        · left; rw [cdS_short h0 h1]
        · have hl := la (b := b) (t := t) x.2.1 (by omega)
          have hg := gd (t := t) (b := b) (i := x.2.1) (by omega)
          by_cases h2 : b.getD x.2.1 0 < 48 ∨ 57 < b.getD x.2.1 0 ∨ (i = 0 ∧ (b.getD x.2.1 0 = 48 ∨ 53 < b.getD x.2.1 0))
          · right; rw [cdS_syn h0 (by omega) h2, cdS_syn h0 hl (by rw [hg]; exact h2)]
          · rw [cdS_step h0 (by omega) h2, cdS_step h0 hl (by rw [hg]; exact h2), hg]
            exact ih _ _ _ (fun _ => by simp only; omega) (.inr rfl)
      · right; rw [cdS_err h0, cdS_err h0]
theorem codeC_ok : Ok b (codeC b).2 := cdS_ok 0 _ (mtS_ok fun _ => Nat.zero_le _)
theorem codeC_pre : (codeC b).2.2 = 8 ∨ codeC (b ++ t) = codeC b := by
  unfold codeC
  refine cdS_pre 0 _ _ (mtS_ok fun _ => Nat.zero_le _) ?_
  rcases mtS_pre (b := b) (t := t) (s := [69, 68, 71, 69, 47, 49, 32]) (σ' := (0, 0)) (.inr rfl) with h | h
  · exact .inl h
  · right; rw [h]
theorem headC_pre : (headC b).σ.2 = 8 ∨ (headC (b ++ t) = headC b ∧ codeC (b ++ t) = codeC b) := by
  unfold headC
  rcases codeC_pre (b := b) (t := t) with h | h
  · left
    have e : mtS b [13, 10] (codeC b).2 = (codeC b).2 := by unfold mtS; rw [if_neg (by omega)]
    rw [e, hdS_err (by omega)]; exact h
  · rw [h]
    rcases mtS_pre (b := b) (t := t) (s := [13, 10]) (σ' := (codeC b).2) (.inr rfl) with h1 | h1
    · left; rw [hdS_err (by omega)]; exact h1
    · rw [h1]
      rcases hdS_pre (b := b) (t := t) (least := 0) (coded := true) 42 [] (mtS b [13, 10] (codeC b).2) (mtS_ok codeC_ok) with h2 | h2
      · exact .inl h2
      · exact .inr ⟨h2, rfl⟩
theorem headC_ok : Ok b (headC b).σ := hdS_ok 42 [] _ (mtS_ok codeC_ok)
/-- Of a beginning of a reply that says how long it is, or comes in pieces: more is to come, or it is the same. -/
theorem tellC_pre {bare c1 c2 : Bool} (h : (headC (b ++ t)).pieces = true ∨ 0 ≤ (headC (b ++ t)).n) : (tellC b bare c1).2.2 = 8 ∨ tellC (b ++ t) bare c2 = tellC b bare c1 := by
  unfold tellC
  rcases headC_pre (b := b) (t := t) with h8 | ⟨e1, e2⟩
  · left
    show (bodyC b bare c1 (codeC b).1 (headC b)).2.2 = 8
    unfold bodyC
    rw [if_pos (.inl (by omega))]; exact h8
  · rw [e1] at h
    rw [e1, e2]
    have hk := headC_ok (b := b)
    generalize headC b = d at *
    generalize (codeC b).1 = c at *
    have key : (bodyC b bare c1 c d).2.2 = 8 ∨ bodyC (b ++ t) bare c2 c d = bodyC b bare c1 c d := by
      unfold bodyC
      by_cases q1 : d.σ.2 ≠ 0 ∨ bare = true ∨ c < 200 ∨ c = 204 ∨ c = 304
      · right; rw [if_pos q1, if_pos q1]
      · rw [if_neg q1, if_neg q1]
        have h0 : d.σ.2 = 0 := by
          rcases Nat.eq_zero_or_pos d.σ.2 with h | h
          · exact h
          · exact absurd (.inl (by omega)) q1
        have hp := hk h0
        by_cases q2 : d.pieces = true
        · rw [if_pos q2, if_pos q2, List.drop_append_of_le_length hp]
          rcases dec_pre (b := b.drop d.σ.1) (t := t) ((b.drop d.σ.1).length + 1) ((b.drop d.σ.1 ++ t).length + 1) 0 [] (by simp) (by omega) with h1 | h1
          · left; exact h1
          · right; rw [h1]
        · rw [if_neg q2, if_neg q2]
          have hn : 0 ≤ d.n := by rcases h with h | h; exact absurd h q2; exact h
          rw [if_pos hn, if_pos hn]
          exact bodyS_pre (.inr rfl) hk
    rcases key with h1 | h1
    · exact .inl h1
    · right; rw [h1]
theorem dec_three {n : Nat} (h1 : 100 ≤ n) (h2 : n ≤ 599) : Lib.decDigits n = [digB (n / 100), digB (n / 10 % 10), digB (n % 10)] := by
  rw [dec_big (by omega), dec_big (n := n / 10) (by omega), dec_small (n := n / 10 / 10) (by omega), show n / 10 / 10 = n / 100 by omega]
  rfl
theorem codeC_told {n : Nat} {rest : List Int} (h1 : 100 ≤ n) (h2 : n ≤ 599) (h : b.drop 0 = [69, 68, 71, 69, 47, 49, 32] ++ (intsOf (Lib.decDigits n) ++ rest)) : codeC b = (n, (10, 0)) := by
  unfold codeC
  have e1 := mtS_here h
  rw [e1]
  have h3 := drop_app h
  simp only [List.length_cons, List.length_nil] at h3 ⊢
  rw [dec_three h1 h2] at h3
  have hd : ∀ k, k < 10 → ((digB k).toNat : Int) = 48 + k := fun k hk => by unfold digB; rw [UInt8.toNat_ofNat']; omega
  obtain ⟨a1, a2, a3⟩ := drop_cons (z := ((digB (n / 100)).toNat : Int)) (r := intsOf [digB (n / 10 % 10), digB (n % 10)] ++ rest) h3
  obtain ⟨c1, c2, c3⟩ := drop_cons (z := ((digB (n / 10 % 10)).toNat : Int)) (r := intsOf [digB (n % 10)] ++ rest) a3
  obtain ⟨d1, d2, _⟩ := drop_cons (z := ((digB (n % 10)).toNat : Int)) (r := rest) c3
  rw [hd _ (by omega)] at a2 c2 d2
  rw [cdS_step rfl a1 (by simp only; rw [a2]; omega)]
  simp only [a2]
  rw [cdS_step rfl c1 (by simp only; rw [c2]; omega)]
  simp only [c2]
  rw [cdS_step rfl d1 (by simp only; rw [d2]; omega)]
  simp only [d2]
  unfold cdS
  refine Prod.ext ?_ rfl
  simp only
  omega
theorem tellE_parts {r : Rp} {size : Int} (h : tellE r size = 0) : r.fields.length ≤ 40 ∧ r.body.length ≤ 8000 ∧ 100 ≤ r.code ∧ r.code ≤ 599 ∧ 0 ≤ size ∧ fieldsE r.fields = 0 := by
  unfold tellE at h
  split at h
  · cases h
  · rename_i h1
    unfold fullB at h1
    simp only [Bool.or_eq_true, decide_eq_true_eq, not_or] at h1
    split at h
    · cases h
    · rename_i h2
      simp only [Bool.or_eq_true, decide_eq_true_eq, not_or] at h2
      exact ⟨by omega, by omega, by omega, by omega, by omega, h⟩
/-- The head of what is told as a reply: by its length. -/
theorem headC_len {r : Rp} {rest : List Int} (h : tellE r 0 = 0) (hb : b = intsOf (tellHead r ++ lenP r.body.length) ++ rest) :
    codeC b = (r.code.toNat, (10, 0)) ∧ headC b = ⟨r.fields, r.body.length, false, ((tellHead r ++ lenP r.body.length).length, 0)⟩ := by
  obtain ⟨a1, a2, a3, a4, _, a6⟩ := tellE_parts h
  have hf := fields_small a6
  have h0 : b.drop 0 = [69, 68, 71, 69, 47, 49, 32] ++ (intsOf (Lib.decDigits r.code.toNat) ++ ([13, 10] ++ (intsOf (linesL r.fields) ++ (intsOf (⟨#[108, 101, 110, 103, 116, 104]⟩ : ByteArray).data.toList ++ 58 :: (32 :: (intsOf (Lib.decDigits r.body.length) ++ ([13, 10] ++ ([13, 10] ++ rest)))))))) := by
    rw [hb]; unfold tellHead lenP; simp [intsOf]
  have e1 := codeC_told (n := r.code.toNat) (by omega) (by omega) h0
  refine ⟨e1, ?_⟩
  have hd3 : (Lib.decDigits r.code.toNat).length = 3 := by rw [dec_three (by omega) (by omega)]; rfl
  have h1 := drop_app h0
  have h2 := drop_app h1
  rw [ints_len, hd3] at h2
  simp only [List.length_cons, List.length_nil] at h2
  have e2 := mtS_here (b := b) (S := [13, 10]) (p := 10) h2
  have h3 := drop_app (b := b) (p := 10) h2
  simp only [List.length_cons, List.length_nil] at e2 h3
  unfold headC
  rw [e1]
  simp only
  rw [e2]
  have e3 := hd_fields (least := 0) (coded := true) r.fields [] (42 - r.fields.length) _ _ hf (by rw [List.length_nil]; omega) h3
  rw [show 42 - r.fields.length + r.fields.length = 42 by omega, List.nil_append] at e3
  rw [e3]
  obtain ⟨g, hg⟩ : ∃ g, 42 - r.fields.length = g + 1 := ⟨41 - r.fields.length, by omega⟩
  rw [hg]
  have h4 := drop_app h3
  rw [ints_len] at h4
  generalize hP : 10 + (0 + 1 + 1) + (linesL r.fields).length = P at *
  have e4 := nmS_here (s := ⟨#[108, 101, 110, 103, 116, 104]⟩) (by decide) h4
  have h5 := drop_app h4
  rw [ints_len] at h5
  have e5 := lenS_here (b := b) (least := 0) (n := r.body.length) a2 (by omega) (p := P + (⟨#[108, 101, 110, 103, 116, 104]⟩ : ByteArray).data.toList.length) (rest := [13, 10] ++ rest) h5 (.inl rfl)
  have h6 : b.drop (P + (⟨#[108, 101, 110, 103, 116, 104]⟩ : ByteArray).data.toList.length + 2 + (Lib.decDigits r.body.length).length + 2) = [13, 10] ++ rest := by
    have q1 := drop_app (l := [58, 32]) (r := intsOf (Lib.decDigits r.body.length) ++ ([13, 10] ++ ([13, 10] ++ rest))) h5
    have q2 := drop_app q1
    rw [ints_len] at q2
    have q3 := drop_app q2
    rw [← q3]
    congr 1
  have h13 : ¬ (((P, 0) : St).1 < b.length ∧ b.getD ((P, 0) : St).1 0 = 13) := by
    obtain ⟨_, q, _⟩ := drop_cons (z := 108) (r := intsOf [101, 110, 103, 116, 104] ++ 58 :: (32 :: (intsOf (Lib.decDigits r.body.length) ++ ([13, 10] ++ ([13, 10] ++ rest))))) h4
    rintro ⟨_, e⟩
    simp only at e
    rw [q] at e; cases e
  rw [hdS_go rfl h13]
  simp only [e4]
  rw [if_neg (by simp), if_pos (by rw [ByteArray.toList_eq]; rfl), e5]
  simp only
  rw [mtS_here h6]
  congr 2
  unfold tellHead lenP
  simp only [List.length_append, List.length_cons, List.length_nil, hd3]
  have : (⟨#[108, 101, 110, 103, 116, 104]⟩ : ByteArray).data.toList.length = 6 := rfl
  omega
/-- The head of what is told as a reply: in pieces. -/
theorem headC_cod {r : Rp} {rest : List Int} (h : tellE r 0 = 0) (hb : b = intsOf (tellHead r ++ codP) ++ rest) :
    codeC b = (r.code.toNat, (10, 0)) ∧ headC b = ⟨r.fields, -1, true, ((tellHead r ++ codP).length, 0)⟩ := by
  obtain ⟨a1, a2, a3, a4, _, a6⟩ := tellE_parts h
  have hf := fields_small a6
  have h0 : b.drop 0 = [69, 68, 71, 69, 47, 49, 32] ++ (intsOf (Lib.decDigits r.code.toNat) ++ ([13, 10] ++ (intsOf (linesL r.fields) ++ (intsOf (⟨#[99, 111, 100, 105, 110, 103]⟩ : ByteArray).data.toList ++ 58 :: ([32, 99, 104, 117, 110, 107, 101, 100, 13, 10, 13, 10] ++ rest))))) := by
    rw [hb]; unfold tellHead codP; simp [intsOf]
  have e1 := codeC_told (n := r.code.toNat) (by omega) (by omega) h0
  refine ⟨e1, ?_⟩
  have hd3 : (Lib.decDigits r.code.toNat).length = 3 := by rw [dec_three (by omega) (by omega)]; rfl
  have h1 := drop_app h0
  have h2 := drop_app h1
  rw [ints_len, hd3] at h2
  simp only [List.length_cons, List.length_nil] at h2
  have e2 := mtS_here (b := b) (S := [13, 10]) (p := 10) h2
  have h3 := drop_app (b := b) (p := 10) h2
  simp only [List.length_cons, List.length_nil] at e2 h3
  unfold headC
  rw [e1]
  simp only
  rw [e2]
  have e3 := hd_fields (least := 0) (coded := true) r.fields [] (42 - r.fields.length) _ _ hf (by rw [List.length_nil]; omega) h3
  rw [show 42 - r.fields.length + r.fields.length = 42 by omega, List.nil_append] at e3
  rw [e3]
  obtain ⟨g, hg⟩ : ∃ g, 42 - r.fields.length = g + 1 := ⟨41 - r.fields.length, by omega⟩
  rw [hg]
  have h4 := drop_app h3
  rw [ints_len] at h4
  generalize hP : 10 + (0 + 1 + 1) + (linesL r.fields).length = P at *
  have e4 := nmS_here (s := ⟨#[99, 111, 100, 105, 110, 103]⟩) (by decide) h4
  have h5 := drop_app h4
  rw [ints_len] at h5
  have h13 : ¬ (((P, 0) : St).1 < b.length ∧ b.getD ((P, 0) : St).1 0 = 13) := by
    obtain ⟨_, q, _⟩ := drop_cons (z := 99) (r := intsOf [111, 100, 105, 110, 103] ++ 58 :: ([32, 99, 104, 117, 110, 107, 101, 100, 13, 10, 13, 10] ++ rest)) h4
    rintro ⟨_, e⟩
    simp only at e
    rw [q] at e; cases e
  rw [hdS_go rfl h13]
  simp only [e4]
  rw [if_neg (by simp), if_neg (by rw [ByteArray.toList_eq]; decide), if_pos ⟨by rw [ByteArray.toList_eq]; rfl, trivial⟩]
  have e6 := mtS_here (b := b) (S := [58, 32, 99, 104, 117, 110, 107, 101, 100, 13, 10, 13, 10]) (rest := rest) h5
  rw [e6]
  congr 2
  unfold tellHead codP
  simp only [List.length_append, List.length_cons, List.length_nil, hd3]
  have : (⟨#[99, 111, 100, 105, 110, 103]⟩ : ByteArray).data.toList.length = 6 := rfl
  omega
theorem flat_upto (l : List Int) (sz k : Nat) : (upto (cut l sz) k).flatten = l.take (k * sz) := by
  induction k with
  | zero => simp [upto]
  | succ k ih =>
    rw [upto_succ, List.flatten_append, ih, show cut l sz k = (l.drop (k * sz)).take sz from rfl, Nat.add_mul, Nat.one_mul, List.take_add]
    simp
theorem flat_all {l : List Int} {sz : Nat} (h : 1 ≤ sz) : (upto (cut l sz) (pieces l.length sz)).flatten = l := by
  rw [flat_upto, List.take_of_length_le]
  have := (lt_pieces (len := l.length) (k := pieces l.length sz) h)
  omega
theorem cut_ne {l : List Int} {sz : Nat} (h : 1 ≤ sz) : ∀ q ∈ upto (cut l sz) (pieces l.length sz), q ≠ [] := by
  intro q hq
  obtain ⟨j, hj, rfl⟩ := List.mem_map.1 hq
  have h1 := (lt_pieces (len := l.length) (k := j) h).1 (by simpa using hj)
  intro e
  have := congrArg List.length e
  rw [cut_len] at this
  simp at this
  omega
theorem many_le (ls : List (List Int)) : ls.length ≤ (encAll ls).length := by
  induction ls with
  | nil => simp [encAll]
  | cons x ls ih =>
    have : (encAll (x :: ls)).length = (enc1 x).length + (encAll ls).length := by simp [encAll]
    have h2 : 1 ≤ (enc1 x).length := by simp only [enc1, List.length_append, List.length_cons]; omega
    rw [this, List.length_cons]; omega
theorem en_whole {l : List Int} {sz : Nat} (h : 1 ≤ sz) (hl : l.length ≤ 8000) (more : List Int) : dec (EN l sz ++ more) ((EN l sz ++ more).length + 1) 0 [] = (l, (EN l sz).length, 0) := by
  have hm := many_le (upto (cut l sz) (pieces l.length sz))
  have := dec_whole (b := EN l sz ++ more) (more := more) (upto (cut l sz) (pieces l.length sz)) ((EN l sz ++ more).length + 1) 0 [] (cut_ne h) (by rw [flat_all h]; simpa using hl) (by simp only [EN, List.length_append]; omega) rfl
  rw [this, flat_all h]
  simp [EN]
theorem cut_code {n : Nat} (h : 200 ≤ n ∧ n ≠ 204 ∧ n ≠ 304) {e : Nat} (he : e = 0) : ¬ (e ≠ 0 ∨ (false : Bool) = true ∨ n < 200 ∨ n = 204 ∨ n = 304) := by
  rintro (h1 | h1 | h1 | h1 | h1)
  · exact h1 he
  · cases h1
  · omega
  · omega
  · omega
/-- What is told as a reply is read as it was, whatever stands behind it. -/
theorem tellC_told {r : Rp} {size : Nat} {rest : List Int} {c : Bool} (h : tellE r size = 0) (hc : 200 ≤ r.code ∧ r.code ≠ 204 ∧ r.code ≠ 304) :
    tellC (tellBytes r size ++ rest) false c = (r, ((tellBytes r size).length, 0)) ∧ ((headC (tellBytes r size ++ rest)).pieces = true ∨ 0 ≤ (headC (tellBytes r size ++ rest)).n) := by
  obtain ⟨a1, a2, a3, a4, _, a6⟩ := tellE_parts h
  have h0 : tellE r 0 = 0 := by
    unfold tellE at h ⊢
    split at h
    · cases h
    · rename_i h1
      rw [if_neg h1]
      split at h
      · cases h
      · rename_i h2
        simp only [Bool.or_eq_true, decide_eq_true_eq, not_or] at h2
        rw [if_neg (by simp only [Bool.or_eq_true, decide_eq_true_eq]; omega)]
        exact h
  have hcode : ((r.code.toNat : Nat) : Int) = r.code := by omega
  by_cases hs : size = 0
  · have hb : tellBytes r size ++ rest = intsOf (tellHead r ++ lenP r.body.length) ++ (r.body ++ rest) := by
      unfold tellBytes; rw [if_pos hs, List.append_assoc]
    have hlen : (tellBytes r size).length = (tellHead r ++ lenP r.body.length).length + r.body.length := by
      unfold tellBytes; rw [if_pos hs, List.length_append, ints_len]
    rw [hlen]
    generalize tellBytes r size ++ rest = b at *
    obtain ⟨e1, e2⟩ := headC_len h0 hb
    refine ⟨?_, .inr (by rw [e2]; simp only; omega)⟩
    unfold tellC
    rw [e1, e2]
    simp only
    have hd : b.drop (tellHead r ++ lenP r.body.length).length = r.body ++ rest := by rw [hb, ← ints_len (tellHead r ++ lenP r.body.length), List.drop_left]
    have hle : (tellHead r ++ lenP r.body.length).length ≤ b.length := by have h9 := congrArg List.length hb; rw [List.length_append, ints_len] at h9; omega
    have e3 : bodyC b false c r.code.toNat ⟨r.fields, r.body.length, false, ((tellHead r ++ lenP r.body.length).length, 0)⟩ = (r.body, ((tellHead r ++ lenP r.body.length).length + r.body.length, 0)) := by
      unfold bodyC
      rw [if_neg (cut_code (by omega) rfl), if_neg (by simp), if_pos (by simp only; omega)]
      simp only [Int.toNat_natCast]
      exact bodyS_here hd hle
    rw [e3, hcode]
  · have hb : tellBytes r size ++ rest = intsOf (tellHead r ++ codP) ++ (EN r.body (min size 8000) ++ rest) := by
      unfold tellBytes; rw [if_neg hs, List.append_assoc]
    have hlen : (tellBytes r size).length = (tellHead r ++ codP).length + (EN r.body (min size 8000)).length := by
      unfold tellBytes; rw [if_neg hs, List.length_append, ints_len]
    rw [hlen]
    generalize tellBytes r size ++ rest = b at *
    obtain ⟨e1, e2⟩ := headC_cod h0 hb
    refine ⟨?_, .inl (by rw [e2])⟩
    unfold tellC
    rw [e1, e2]
    simp only
    have hd : b.drop (tellHead r ++ codP).length = EN r.body (min size 8000) ++ rest := by rw [hb, ← ints_len (tellHead r ++ codP), List.drop_left]
    have e3 : bodyC b false c r.code.toNat ⟨r.fields, -1, true, ((tellHead r ++ codP).length, 0)⟩ = (r.body, ((tellHead r ++ codP).length + (EN r.body (min size 8000)).length, 0)) := by
      unfold bodyC
      rw [if_neg (cut_code (by omega) rfl), if_pos rfl]
      simp only
      rw [hd, en_whole (by omega) a2]
    rw [e3, hcode]
end Go.Proofs.YtkohbbnnjakhjaaGreatDoor.ReadS
