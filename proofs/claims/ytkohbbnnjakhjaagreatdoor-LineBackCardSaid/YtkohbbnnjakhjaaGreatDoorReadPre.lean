/-
  What is read of the beginning of bytes: there is more to come, or the same is read of all of them.
-/
import Derived.Test.YtkohbbnnjakhjaaGreatDoorReadS
namespace Go.Proofs.YtkohbbnnjakhjaaGreatDoor.ReadS
open ChunkD BA LineC LineM FieldRows
set_option linter.unusedVariables false
variable {b t : List Int}
theorem gd {i : Nat} (h : i < b.length) : (b ++ t).getD i 0 = b.getD i 0 := by
  rw [List.getD_eq_getElem?_getD, List.getD_eq_getElem?_getD, List.getElem?_append_left h]
theorem la (i : Nat) (h : i < b.length) : i < (b ++ t).length := by rw [List.length_append]; omega
theorem ut_pre {stop : Int} {may : UInt8 → Bool} {p : Nat} : ∀ f f' i, (b ++ t).length < i + f' → ut b stop may p f i = (0, 8) ∨ ut (b ++ t) stop may p f' i = ut b stop may p f i := by
  intro f
  induction f with
  | zero => intro f' i _; exact .inl rfl
  | succ f ih =>
    intro f' i hf
    by_cases h1 : b.length ≤ i
    · exact .inl (ut_short h1)
    · have hl := la (b := b) (t := t) i (by omega)
      obtain ⟨g, rfl⟩ : ∃ g, f' = g + 1 := ⟨f' - 1, by omega⟩
      have hg := gd (t := t) (b := b) (i := i) (by omega)
      by_cases h2 : b.getD i 0 = stop
      · rw [ut_end (by omega) h2, ut_end hl (by rw [hg]; exact h2)]; exact .inr rfl
      · by_cases h3 : may (u8 (b.getD i 0)) = false ∨ 400 ≤ i - p
        · rw [ut_syn (by omega) h2 h3, ut_syn hl (by rw [hg]; exact h2) (by rw [hg]; exact h3)]; exact .inr rfl
        · have h5 : may (u8 (b.getD i 0)) = true := by
            rcases hm : may (u8 (b.getD i 0)) with _ | _
            · exact absurd (.inl hm) h3
            · rfl
          have h6 : ¬ 400 ≤ i - p := fun h => h3 (.inr h)
          rw [ut_step (by omega) h2 h5 h6, ut_step hl (by rw [hg]; exact h2) (by rw [hg]; exact h5) h6]
          exact ih g (i + 1) (by omega)
theorem mt_pre : ∀ s p, mt b s p = (0, 8) ∨ mt (b ++ t) s p = mt b s p := by
  intro s
  induction s with
  | nil => intro p; exact .inr rfl
  | cons c s ih =>
    intro p
    by_cases h1 : b.length ≤ p
    · exact .inl (mt_short h1)
    · have hl := la (b := b) (t := t) p (by omega)
      have hg := gd (t := t) (b := b) (i := p) (by omega)
      by_cases h2 : b.getD p 0 = c
      · rw [mt_step (by omega) h2, mt_step hl (by rw [hg]; exact h2)]; exact ih (p + 1)
      · rw [mt_bad (by omega) h2, mt_bad hl (by rw [hg]; exact h2)]; exact .inr rfl
theorem dgs_pre {least p : Nat} : ∀ f f' i n, (b ++ t).length < i + f' → dgs b least p f i n = (0, 0, 8) ∨ dgs (b ++ t) least p f' i n = dgs b least p f i n := by
  intro f
  induction f with
  | zero => intro f' i n _; exact .inl rfl
  | succ f ih =>
    intro f' i n hf
    by_cases h0 : b.length ≤ i
    · exact .inl (dgs_short h0)
    · have hl := la (b := b) (t := t) i (by omega)
      obtain ⟨g, rfl⟩ : ∃ g, f' = g + 1 := ⟨f' - 1, by omega⟩
      have hg := gd (t := t) (b := b) (i := i) (by omega)
      by_cases h1 : b.getD i 0 = 13 ∧ p < i
      · by_cases h2 : n < least
        · rw [dgs_few (by omega) h1 h2, dgs_few hl (by rw [hg]; exact h1) h2]; exact .inr rfl
        · rw [dgs_end (by omega) h1 h2, dgs_end hl (by rw [hg]; exact h1) h2]; exact .inr rfl
      · by_cases h2 : b.getD i 0 < 48 ∨ 57 < b.getD i 0 ∨ (i = p + 1 ∧ n = 0) ∨ (i = p ∧ b.getD i 0 = 48 ∧ 0 < least)
        · rw [dgs_syn (by omega) h1 h2, dgs_syn hl (by rw [hg]; exact h1) (by rw [hg]; exact h2)]; exact .inr rfl
        · by_cases h3 : 8000 < 10 * n + (b.getD i 0 - 48).toNat
          · rw [dgs_full (by omega) h1 h2 h3, dgs_full hl (by rw [hg]; exact h1) (by rw [hg]; exact h2) (by rw [hg]; exact h3)]; exact .inr rfl
          · rw [dgs_step (by omega) h1 h2 h3, dgs_step hl (by rw [hg]; exact h1) (by rw [hg]; exact h2) (by rw [hg]; exact h3), hg]
            exact ih g (i + 1) _ (by omega)
theorem num_pre {st most : Nat} : ∀ f f' k n, (b ++ t).length < k + f' → num b st most f k n = (0, 0, 8) ∨ num (b ++ t) st most f' k n = num b st most f k n := by
  intro f
  induction f with
  | zero => intro f' k n _; exact .inl rfl
  | succ f ih =>
    intro f' k n hf
    by_cases h0 : b.length ≤ k
    · exact .inl (num_short h0)
    · have hl := la (b := b) (t := t) k (by omega)
      obtain ⟨g, rfl⟩ : ∃ g, f' = g + 1 := ⟨f' - 1, by omega⟩
      have hg := gd (t := t) (b := b) (i := k) (by omega)
      by_cases h1 : dg (b.getD k 0) < 0
      · by_cases h2 : k = st
        · rw [num_syn1 (by omega) h1 h2, num_syn1 hl (by rw [hg]; exact h1) h2]; exact .inr rfl
        · rw [num_end (by omega) h1 h2, num_end hl (by rw [hg]; exact h1) h2]; exact .inr rfl
      · by_cases h2 : k = st + 1 ∧ n = 0
        · rw [num_syn2 (by omega) h1 h2, num_syn2 hl (by rw [hg]; exact h1) h2]; exact .inr rfl
        · by_cases h3 : most < 16 * n + (dg (b.getD k 0)).toNat
          · rw [num_full (by omega) h1 h2 h3, num_full hl (by rw [hg]; exact h1) h2 (by rw [hg]; exact h3)]; exact .inr rfl
          · rw [num_step (by omega) h1 h2 h3, num_step hl (by rw [hg]; exact h1) h2 (by rw [hg]; exact h3), hg]
            exact ih g (k + 1) _ (by omega)
theorem cut_same {m n : Nat} (h : m + n ≤ b.length) : ((b ++ t).drop m).take n = (b.drop m).take n := by
  rw [List.drop_append_of_le_length (by omega), List.take_append_of_le_length (by rw [List.length_drop]; omega)]
theorem dec_pre : ∀ f f' p body, body.length ≤ 8000 → (b ++ t).length < p + f' → (dec b f p body).2.2 = 8 ∨ dec (b ++ t) f' p body = dec b f p body := by
  intro f
  induction f with
  | zero => intro f' p body _ _; exact .inl rfl
  | succ f ih =>
    intro f' p body hbl hf
    by_cases hp : b.length ≤ p
    · left
      have : num b p (8000 - body.length) (b.length + 1) p 0 = (0, 0, 8) := num_short hp
      rw [dec_num this (by decide)]
    · have hl := la (b := b) (t := t) p (by omega)
      obtain ⟨g, rfl⟩ : ∃ g, f' = g + 1 := ⟨f' - 1, by omega⟩
      obtain ⟨⟨n, q, e⟩, hn⟩ : ∃ r, num b p (8000 - body.length) (b.length + 1) p 0 = r := ⟨_, rfl⟩
      rcases num_pre (b := b) (t := t) (b.length + 1) ((b ++ t).length + 1) p 0 (st := p) (most := 8000 - body.length) (by omega) with h8 | hs
      · left; rw [dec_num h8 (by decide)]
      · rw [hn] at hs
        by_cases he : e = 0
        · subst he
          have hok := num_ok (b := b) (st := p) (most := 8000 - body.length) (by omega) (b.length + 1) p 0 (.inl ⟨rfl, rfl⟩) (Nat.zero_le _) (Nat.le_refl _) (by rw [hn])
          rw [hn] at hok
          simp only at hok
          obtain ⟨⟨m, e1⟩, hm⟩ : ∃ r, mt b [13, 10] q = r := ⟨_, rfl⟩
          rcases mt_pre (t := t) (b := b) [13, 10] q with h8 | hs1
          · left; rw [dec_mt hn h8 (by decide)]
          · rw [hm] at hs1
            by_cases he1 : e1 = 0
            · subst he1
              have hmok := (mt_ok (b := b) [13, 10] q (by rw [hm])).1
              rw [hm] at hmok
              simp only [List.length_cons, List.length_nil] at hmok
              obtain ⟨⟨m2, e2⟩, hm2⟩ : ∃ r, mt b [13, 10] (m + n) = r := ⟨_, rfl⟩
              rcases mt_pre (t := t) (b := b) [13, 10] (m + n) with h8 | hs2
              · left; rw [dec_mt2 hn hm h8 (by decide)]
              · rw [hm2] at hs2
                by_cases he2 : e2 = 0
                · subst he2
                  have hm2ok := mt_ok (b := b) [13, 10] (m + n) (by rw [hm2])
                  rw [hm2] at hm2ok
                  have hlen : m + n + 2 ≤ b.length := hm2ok.2 (by simp)
                  have hm2e : m2 = m + n + 2 := hm2ok.1
                  by_cases hn0 : n = 0
                  · subst hn0
                    rw [dec_end hn hm hm2, dec_end hs hs1 hs2]; exact .inr rfl
                  · rw [dec_step hn hm hm2 hn0, dec_step hs hs1 hs2 hn0, cut_same (by omega)]
                    refine ih g m2 _ ?_ (by omega)
                    rw [List.length_append, List.length_take]
                    omega
                · rw [dec_mt2 hn hm hm2 he2, dec_mt2 hs hs1 hs2 he2]; exact .inr rfl
            · rw [dec_mt hn hm he1, dec_mt hs hs1 he1]; exact .inr rfl
        · rw [dec_num hn he, dec_num hs he]; exact .inr rfl
/-- More is to come, or the same. -/
def PS (σ' σ : St) : Prop := σ'.2 = 8 ∨ σ = σ'
theorem mtS_pre {s : List Int} {σ' σ : St} (h : PS σ' σ) : PS (mtS b s σ') (mtS (b ++ t) s σ) := by
  rcases h with h | rfl
  · left; unfold mtS; rw [if_neg (by omega)]; exact h
  · unfold mtS PS
    split
    · rcases mt_pre (b := b) (t := t) s σ.1 with h | h
      · left; rw [h]
      · exact .inr h
    · exact .inr rfl
theorem needS_pre {ok : Bool} {σ' σ : St} (h : PS σ' σ) (ok' : Bool) (hk : σ = σ' → ok' = ok) : PS (needS ok' σ') (needS ok σ) := by
  rcases h with h | rfl
  · left; unfold needS; rw [if_neg (by omega)]; exact h
  · right; rw [hk rfl]
def PT (u' u : ByteArray × St) : Prop := u'.2.2 = 8 ∨ u = u'
theorem txt_same {p i : Nat} (h : i ≤ b.length) (hp : p ≤ i) : txt (b ++ t) p i = txt b p i := by unfold txt; rw [cut_same (by omega)]
theorem utS_pre {stop : Int} {may : UInt8 → Bool} {σ' σ : St} (h : PS σ' σ) : PT (utS b stop may σ') (utS (b ++ t) stop may σ) := by
  rcases h with h | rfl
  · left; unfold utS; rw [if_neg (by omega)]; exact h
  · unfold utS PT
    by_cases h0 : σ.2 = 0
    · rw [if_pos h0, if_pos h0]
      rcases ut_pre (b := b) (t := t) (b.length + 1) ((b ++ t).length + 1) σ.1 (stop := stop) (may := may) (p := σ.1) (by omega) with h | h
      · left; simp only [h]
      · right
        rw [h]
        split
        · rename_i h1
          have := ut_ok (b := b) (stop := stop) (may := may) (p := σ.1) (b.length + 1) σ.1 (Nat.le_refl _) (by omega) h1
          rw [txt_same (by omega) this.1]
        · rfl
    · rw [if_neg h0, if_neg h0]; exact .inr rfl
theorem valS_pre {σ' σ : St} (h : PS σ' σ) (hk : Ok b σ') : PT (valS b σ') (valS (b ++ t) σ) := by
  have hm := mtS_pre (b := b) (t := t) (s := [58, 32]) h
  have hmk := mtS_ok (s := [58, 32]) hk
  have fin : ∀ x' x : St, PS x' x → PT ((utS b 13 okB x').1, mtS b [13, 10] (needS (plainL (utS b 13 okB x').1.data.toList) (utS b 13 okB x').2)) ((utS (b ++ t) 13 okB x).1, mtS (b ++ t) [13, 10] (needS (plainL (utS (b ++ t) 13 okB x).1.data.toList) (utS (b ++ t) 13 okB x).2)) := by
    intro x' x hx
    rcases utS_pre (b := b) (t := t) (stop := 13) (may := okB) hx with h | h
    · left
      simp only
      have : needS (plainL (utS b 13 okB x').1.data.toList) (utS b 13 okB x').2 = (utS b 13 okB x').2 := by unfold needS; rw [if_neg (by omega)]
      rw [this]
      unfold mtS
      rw [if_neg (by omega)]; exact h
    · rw [h]
      rcases mtS_pre (b := b) (t := t) (s := [13, 10]) (σ' := needS (plainL (utS b 13 okB x').1.data.toList) (utS b 13 okB x').2) (.inr rfl) with h | h
      · exact .inl h
      · right; rw [h]
  unfold valS
  dsimp only
  rcases hm with h8 | he
  · refine fin _ _ (.inl ?_)
    unfold blankS
    rw [if_neg (by omega)]; exact h8
  · rw [he]
    generalize mtS b [58, 32] σ' = m at *
    by_cases h0 : m.2 = 0
    · have hle := hmk h0
      by_cases hlt : m.1 < b.length
      · refine fin _ _ (.inr ?_)
        unfold blankS
        rw [gd hlt, List.length_append]
        have e1 : (m.2 = 0 ∧ m.1 < b.length + t.length ∧ b.getD m.1 0 = 32) = (m.2 = 0 ∧ m.1 < b.length ∧ b.getD m.1 0 = 32) := by
          apply propext; constructor <;> rintro ⟨x, y, z⟩ <;> exact ⟨x, by omega, z⟩
        simp only [e1]
      · have e1 : blankS b m = m := by unfold blankS; rw [if_neg (by omega)]
        have e2 : utS b 13 okB m = (⟨#[]⟩, (0, 8)) := by
          unfold utS
          rw [if_pos h0, ut_short (by omega), if_neg (by decide)]
        left
        rw [e1, e2]
        rfl
    · refine fin _ _ (.inr ?_)
      unfold blankS
      rw [if_neg (by omega), if_neg (by omega)]
theorem lenS_pre {least : Nat} {σ' σ : St} (h : PS σ' σ) : (lenS b least σ').2.2 = 8 ∨ lenS (b ++ t) least σ = lenS b least σ' := by
  have hm := mtS_pre (b := b) (t := t) (s := [58, 32]) h
  unfold lenS
  dsimp only
  rcases hm with h8 | he
  · left; rw [if_neg (by omega)]; exact h8
  · rw [he]
    generalize mtS b [58, 32] σ' = m
    split
    · rcases dgs_pre (b := b) (t := t) (least := least) (p := m.1) (b.length + 1) ((b ++ t).length + 1) m.1 0 (by omega) with h | h
      · left; rw [h]; rfl
      · rw [h]
        rcases mtS_pre (b := b) (t := t) (s := [13, 10]) (σ' := (dgs b least m.1 (b.length + 1) m.1 0).2) (.inr rfl) with h2 | h2
        · exact .inl h2
        · right; rw [h2]
    · exact .inr rfl
theorem hdS_pre {least : Nat} {coded : Bool} : ∀ f l σ, Ok b σ → (hdS b least coded f l σ).σ.2 = 8 ∨ hdS (b ++ t) least coded f l σ = hdS b least coded f l σ := by
  intro f
  induction f with
  | zero => intro l σ _; exact .inl rfl
  | succ f ih =>
    intro l σ hk
    by_cases h0 : σ.2 ≠ 0
    · right; unfold hdS; rw [if_pos h0, if_pos h0]
    have h0' : σ.2 = 0 := by omega
    have hle := hk h0'
    by_cases hend : b.length ≤ σ.1
    · left
      have e2 : utS b 58 smallB σ = (⟨#[]⟩, (0, 8)) := by
        unfold utS
        rw [if_pos h0', ut_short hend, if_neg (by decide)]
      unfold hdS
      rw [if_neg h0, if_neg (by omega)]
      simp only [e2]
      rfl
    have hg := gd (t := t) (b := b) (i := σ.1) (by omega)
    have hl := la (b := b) (t := t) σ.1 (by omega)
    by_cases h13 : b.getD σ.1 0 = 13
    · have e1 : hdS b least coded (f + 1) l σ = ⟨l, -1, false, mtS b [13, 10] σ⟩ := by rw [hdS, if_neg h0, if_pos ⟨by omega, h13⟩]
      have e2 : hdS (b ++ t) least coded (f + 1) l σ = ⟨l, -1, false, mtS (b ++ t) [13, 10] σ⟩ := by rw [hdS, if_neg h0, if_pos ⟨hl, by rw [hg]; exact h13⟩]
      rw [e1, e2]
      rcases mtS_pre (b := b) (t := t) (s := [13, 10]) (σ' := σ) (.inr rfl) with h | h
      · exact .inl h
      · right; rw [h]
    rw [hdS_go h0' (fun h => h13 h.2), hdS_go h0' (fun h => h13 (by rw [← hg]; exact h.2))]
    have hnm : (nmS b σ).2.2 = 8 ∨ nmS (b ++ t) σ = nmS b σ := by
      unfold nmS
      rcases utS_pre (b := b) (t := t) (stop := 58) (may := smallB) (σ' := σ) (.inr rfl) with h | h
      · left; show (needS _ _).2 = 8; unfold needS; rw [if_neg (by omega)]; exact h
      · right; rw [h]
    have hk2 : Ok b (nmS b σ).2 := needS_ok (utS_ok hk)
    rcases hnm with h | h
    · left
      rw [if_pos (by omega)]; exact h
    · rw [h]
      generalize nmS b σ = u at *
      obtain ⟨nm, τ⟩ := u
      simp only at hk2 ⊢
      split
      · exact .inr rfl
      split
      · rcases lenS_pre (b := b) (t := t) (least := least) (σ' := τ) (.inr rfl) with h | h
        · left
          unfold mtS
          rw [if_neg (by omega)]; exact h
        · rw [h]
          rcases mtS_pre (b := b) (t := t) (s := [13, 10]) (σ' := (lenS b least τ).2) (.inr rfl) with h | h
          · exact .inl h
          · right; rw [h]
      split
      · rcases mtS_pre (b := b) (t := t) (s := [58, 32, 99, 104, 117, 110, 107, 101, 100, 13, 10, 13, 10]) (σ' := τ) (.inr rfl) with h | h
        · exact .inl h
        · right; rw [h]
      split
      · exact .inr rfl
      split
      · exact .inr rfl
      · rcases valS_pre (b := b) (t := t) (σ' := τ) (.inr rfl) hk2 with h | h
        · left
          have e8 : (hdS b least coded f (l ++ [(nm, (valS b τ).1)]) (valS b τ).2).σ.2 = 8 := by
            cases f with
            | zero => rfl
            | succ f => rw [hdS_err (by omega)]; exact h
          exact e8
        · rw [h]
          exact ih _ _ (valS_ok hk2)
theorem bodyS_pre {n : Nat} {σ' σ : St} (h : PS σ' σ) (hk : Ok b σ') : (bodyS b n σ').2.2 = 8 ∨ bodyS (b ++ t) n σ = bodyS b n σ' := by
  rcases h with h | rfl
  · left; unfold bodyS; rw [if_pos (by omega)]; exact h
  · unfold bodyS
    split
    · exact .inr rfl
    · rename_i h0
      have := hk (by omega)
      split
      · exact .inl rfl
      · right
        rw [if_neg (by rw [List.length_append]; omega), cut_same (by omega)]
theorem askC_pre : (askC b).2.2 = 8 ∨ askC (b ++ t) = askC b := by
  unfold askC
  dsimp only
  have k0 : Ok b (0, 0) := fun _ => Nat.zero_le _
  have P1 := utS_pre (b := b) (t := t) (stop := 32) (may := tokB) (σ' := (0, 0)) (.inr rfl)
  have K1 := utS_ok (b := b) (stop := 32) (may := tokB) k0
  generalize utS b 32 tokB (0, 0) = m' at *
  generalize utS (b ++ t) 32 tokB (0, 0) = m at *
  have P2 : PS (mtS b [32] (needS (!m'.1.toList.isEmpty) m'.2)) (mtS (b ++ t) [32] (needS (!m.1.toList.isEmpty) m.2)) := by
    refine mtS_pre ?_
    rcases P1 with h | rfl
    · exact .inl (by unfold needS; rw [if_neg (by omega)]; exact h)
    · exact .inr rfl
  have K2 : Ok b (mtS b [32] (needS (!m'.1.toList.isEmpty) m'.2)) := mtS_ok (needS_ok K1)
  have P3 := utS_pre (b := b) (t := t) (stop := 32) (may := visB) P2
  have K3 := utS_ok (b := b) (stop := 32) (may := visB) K2
  -- a fault goes on
  have e8m : m'.2.2 = 8 → (mtS b [32] (needS (!m'.1.toList.isEmpty) m'.2)).2 = 8 := fun h => by
    have : needS (!m'.1.toList.isEmpty) m'.2 = m'.2 := by unfold needS; rw [if_neg (by omega)]
    rw [this]; unfold mtS; rw [if_neg (by omega)]; exact h
  generalize mtS b [32] (needS (!m'.1.toList.isEmpty) m'.2) = σ3' at *
  generalize mtS (b ++ t) [32] (needS (!m.1.toList.isEmpty) m.2) = σ3 at *
  have e8u : σ3'.2 = 8 → (utS b 32 visB σ3').2.2 = 8 := fun h => by unfold utS; rw [if_neg (by omega)]; exact h
  generalize utS b 32 visB σ3' = p' at *
  generalize utS (b ++ t) 32 visB σ3 = p at *
  have P4 : PS (mtS b [32, 69, 68, 71, 69, 47, 49, 13, 10, 104, 111, 115, 116] (needS (!p'.1.toList.isEmpty) p'.2)) (mtS (b ++ t) [32, 69, 68, 71, 69, 47, 49, 13, 10, 104, 111, 115, 116] (needS (!p.1.toList.isEmpty) p.2)) := by
    refine mtS_pre ?_
    rcases P3 with h | rfl
    · exact .inl (by unfold needS; rw [if_neg (by omega)]; exact h)
    · exact .inr rfl
  have K4 : Ok b (mtS b [32, 69, 68, 71, 69, 47, 49, 13, 10, 104, 111, 115, 116] (needS (!p'.1.toList.isEmpty) p'.2)) := mtS_ok (needS_ok K3)
  have e8p : p'.2.2 = 8 → (mtS b [32, 69, 68, 71, 69, 47, 49, 13, 10, 104, 111, 115, 116] (needS (!p'.1.toList.isEmpty) p'.2)).2 = 8 := fun h => by
    have : needS (!p'.1.toList.isEmpty) p'.2 = p'.2 := by unfold needS; rw [if_neg (by omega)]
    rw [this]; unfold mtS; rw [if_neg (by omega)]; exact h
  generalize mtS b [32, 69, 68, 71, 69, 47, 49, 13, 10, 104, 111, 115, 116] (needS (!p'.1.toList.isEmpty) p'.2) = σ4' at *
  generalize mtS (b ++ t) [32, 69, 68, 71, 69, 47, 49, 13, 10, 104, 111, 115, 116] (needS (!p.1.toList.isEmpty) p.2) = σ4 at *
  have P5 := valS_pre (b := b) (t := t) P4 K4
  have K5 := valS_ok K4
  have e8v : σ4'.2 = 8 → (valS b σ4').2.2 = 8 := fun h => by
    have e1 : mtS b [58, 32] σ4' = σ4' := by unfold mtS; rw [if_neg (by omega)]
    have e2 : blankS b σ4' = σ4' := by unfold blankS; rw [if_neg (by omega)]
    have e3 : utS b 13 okB σ4' = (⟨#[]⟩, σ4') := by unfold utS; rw [if_neg (by omega)]
    unfold valS
    rw [e1, e2, e3]
    have e4 : needS (plainL (⟨#[]⟩ : ByteArray).data.toList) σ4' = σ4' := by unfold needS; rw [if_neg (by omega)]
    show (mtS b [13, 10] (needS (plainL (⟨#[]⟩ : ByteArray).data.toList) σ4')).2 = 8
    rw [e4]; unfold mtS; rw [if_neg (by omega)]; exact h
  generalize valS b σ4' = h' at *
  generalize valS (b ++ t) σ4 = h at *
  have e8h : h'.2.2 = 8 → (needS (!h'.1.toList.isEmpty) h'.2).2 = 8 := fun hh => by unfold needS; rw [if_neg (by omega)]; exact hh
  have K6 : Ok b (needS (!h'.1.toList.isEmpty) h'.2) := needS_ok K5
  have P6 : h'.2.2 = 8 ∨ h = h' := P5
  have fin8 : ∀ τ : St, τ.2 = 8 → ((if 0 < (hdS b 1 false 42 [] τ).n then bodyS b (hdS b 1 false 42 [] τ).n.toNat (hdS b 1 false 42 [] τ).σ else ([], (hdS b 1 false 42 [] τ).σ)) : List Int × St).2.2 = 8 := by
    intro τ h8
    have e1 : hdS b 1 false 42 [] τ = ⟨[], -1, false, τ⟩ := by rw [hdS, if_pos (by omega)]
    rw [e1]
    exact h8
  by_cases q1 : m'.2.2 = 8
  · left; exact fin8 _ (e8h (e8v (e8p (e8u (e8m q1)))))
  have hm : m = m' := by rcases P1 with h | h; exact absurd h q1; exact h
  by_cases q2 : p'.2.2 = 8
  · left; exact fin8 _ (e8h (e8v (e8p q2)))
  have hp : p = p' := by rcases P3 with h | h; exact absurd h q2; exact h
  by_cases q3 : h'.2.2 = 8
  · left; exact fin8 _ (e8h q3)
  have hh : h = h' := by rcases P6 with h | h; exact absurd h q3; exact h
  subst hm; subst hp; subst hh
  rcases hdS_pre (b := b) (t := t) (least := 1) (coded := false) 42 [] (needS (!h.1.toList.isEmpty) h.2) K6 with h8 | he
  · left
    generalize hdS b 1 false 42 [] (needS (!h.1.toList.isEmpty) h.2) = d at *
    show ((if 0 < d.n then bodyS b d.n.toNat d.σ else ([], d.σ)) : List Int × St).2.2 = 8
    split
    · unfold bodyS; rw [if_pos (by omega)]; exact h8
    · exact h8
  · rw [he]
    have K7 := hdS_ok (b := b) (least := 1) (coded := false) 42 [] _ K6
    generalize hdS b 1 false 42 [] (needS (!h.1.toList.isEmpty) h.2) = d at *
    by_cases hn : 0 < d.n
    · rw [if_pos hn, if_pos hn]
      rcases bodyS_pre (b := b) (t := t) (n := d.n.toNat) (σ' := d.σ) (.inr rfl) K7 with h | h
      · exact .inl h
      · right; rw [h]
    · rw [if_neg hn, if_neg hn]; exact .inr rfl
end Go.Proofs.YtkohbbnnjakhjaaGreatDoor.ReadS
