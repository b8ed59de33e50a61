/-
  What is read of any bytes as a request is told as these bytes: plain Lean.
-/
import Derived.Test.YtkohbbnnjakhjaaGreatDoorReadFwd
namespace Go.Proofs.YtkohbbnnjakhjaaGreatDoor.ReadS
open ChunkD BA LineC LineM FieldRows
set_option linter.unusedVariables false
set_option linter.unusedSimpArgs false
variable {b : List Int}
/-- From p to q stands L. -/
def Con (b : List Int) (p q : Nat) (L : List Int) : Prop := p ≤ q ∧ q ≤ b.length ∧ (b.drop p).take (q - p) = L
theorem Con.nil {p : Nat} (h : p ≤ b.length) : Con b p p [] := ⟨Nat.le_refl _, h, by rw [Nat.sub_self, List.take_zero]⟩
theorem Con.app {p q r : Nat} {L M : List Int} (h : Con b p q L) (k : Con b q r M) : Con b p r (L ++ M) := by
  obtain ⟨h1, h2, h3⟩ := h
  obtain ⟨k1, k2, k3⟩ := k
  refine ⟨by omega, k2, ?_⟩
  rw [← h3, ← k3, show r - p = (q - p) + (r - q) by omega, List.take_add, List.drop_drop, show p + (q - p) = q by omega]
theorem Con.one {p : Nat} (h : p < b.length) : Con b p (p + 1) [b.getD p 0] := by
  refine ⟨by omega, by omega, ?_⟩
  rw [show p + 1 - p = 0 + 1 by omega, List.drop_eq_getElem_cons h, List.take_succ_cons, List.take_zero]
  simp [List.getD_eq_getElem?_getD, List.getElem?_eq_getElem h]
theorem Con.cast {p q : Nat} {L M : List Int} (h : Con b p q L) (e : L = M) : Con b p q M := e ▸ h
theorem mt_back : ∀ S p q, p ≤ b.length → mt b S p = (q, 0) → Con b p q S := by
  intro S
  induction S with
  | nil =>
    intro p q hp h
    injection h with h1 _
    subst h1
    exact Con.nil hp
  | cons c S ih =>
    intro p q hp h
    by_cases h1 : b.length ≤ p
    · rw [mt_short h1] at h; injection h with _ h2; cases h2
    · by_cases h2 : b.getD p 0 = c
      · rw [mt_step (by omega) h2] at h
        have h3 := (Con.one (b := b) (p := p) (by omega)).app (ih (p + 1) q (by omega) h)
        rw [h2] at h3
        exact h3
      · rw [mt_bad (by omega) h2] at h; injection h with _ h2; cases h2
theorem mtS_back {S : List Int} {σ : St} {q : Nat} (hk : Ok b σ) (h : mtS b S σ = (q, 0)) : σ.2 = 0 ∧ Con b σ.1 q S := by
  unfold mtS at h
  by_cases h0 : σ.2 = 0
  · rw [if_pos h0] at h; exact ⟨h0, mt_back S _ q (hk h0) h⟩
  · rw [if_neg h0] at h; rw [h] at h0; exact absurd rfl h0
theorem ut_back {stop : Int} {may : UInt8 → Bool} {p : Nat} : ∀ f i q, ut b stop may p f i = (q, 0) → i ≤ q ∧ q < b.length ∧ b.getD q 0 = stop ∧ ∀ t, i ≤ t → t < q → may (u8 (b.getD t 0)) = true ∧ t - p < 400 := by
  intro f
  induction f with
  | zero => intro i q h; injection h with _ h2; cases h2
  | succ f ih =>
    intro i q h
    by_cases h1 : b.length ≤ i
    · rw [ut_short h1] at h; injection h with _ h2; cases h2
    · by_cases h2 : b.getD i 0 = stop
      · rw [ut_end (by omega) h2] at h
        injection h with h3 _
        subst h3
        exact ⟨Nat.le_refl _, by omega, h2, fun t a c => absurd c (by omega)⟩
      · by_cases h3 : may (u8 (b.getD i 0)) = false ∨ 400 ≤ i - p
        · rw [ut_syn (by omega) h2 h3] at h; injection h with _ h2; cases h2
        · have h5 : may (u8 (b.getD i 0)) = true := by
            rcases hm : may (u8 (b.getD i 0)) with _ | _
            · exact absurd (.inl hm) h3
            · rfl
          have h6 : ¬ 400 ≤ i - p := fun h => h3 (.inr h)
          rw [ut_step (by omega) h2 h5 h6] at h
          obtain ⟨a, c, d, e⟩ := ih (i + 1) q h
          refine ⟨by omega, c, d, fun t ht1 ht2 => ?_⟩
          by_cases hti : t = i
          · subst hti; exact ⟨h5, by omega⟩
          · exact e t (by omega) ht2
theorem ints_strOf {l : List Int} (h : ∀ z ∈ l, 0 ≤ z ∧ z ≤ 255) : intsOf (strOf l).data.toList = l := by
  unfold intsOf strOf
  induction l with
  | nil => rfl
  | cons a l ih =>
    have ha := h a (by simp)
    have := ih (fun z hz => h z (by simp [hz]))
    simp only [List.map_cons, List.toList_toArray] at this ⊢
    rw [this, UInt8.toNat_ofNat']
    congr 1
    omega
theorem strOf_mem {l : List Int} {c : UInt8} (h : c ∈ (strOf l).data.toList) : ∃ z ∈ l, c = u8 z := by
  unfold strOf at h
  simp only [List.toList_toArray, List.mem_map] at h
  obtain ⟨z, hz, rfl⟩ := h
  exact ⟨z, hz, rfl⟩
theorem utS_back {stop : Int} {may : UInt8 → Bool} {σ : St} {T : ByteArray} {q : Nat} (hz : ∀ z ∈ b, 0 ≤ z ∧ z ≤ 255) (h : utS b stop may σ = (T, (q, 0))) :
    σ.2 = 0 ∧ Con b σ.1 q (intsOf T.data.toList) ∧ (∀ c ∈ T.data.toList, may c = true) ∧ T.data.toList.length ≤ 400 ∧ q < b.length ∧ b.getD q 0 = stop := by
  unfold utS at h
  by_cases h0 : σ.2 = 0
  · rw [if_pos h0] at h
    injection h with h1 h2
    obtain ⟨a, c, d, e⟩ := ut_back _ _ _ h2
    rw [h2, if_pos rfl] at h1
    simp only at h1
    have hT : T = strOf ((b.drop σ.1).take (q - σ.1)) := h1.symm
    refine ⟨h0, ⟨a, by omega, ?_⟩, ?_, ?_, c, d⟩
    · rw [hT, ints_strOf (fun z hz' => hz z (List.mem_of_mem_drop (List.mem_of_mem_take hz')))]
    · intro x hx
      rw [hT] at hx
      obtain ⟨z, hz', rfl⟩ := strOf_mem hx
      obtain ⟨t, ht, rfl⟩ := List.getElem_of_mem hz'
      rw [List.length_take, List.length_drop] at ht
      have := (e (σ.1 + t) (by omega) (by omega)).1
      rw [List.getElem_take, List.getElem_drop]
      rwa [List.getD_eq_getElem?_getD, List.getElem?_eq_getElem (by omega)] at this
    · rw [← size_list, hT, strOf_size, List.length_take]
      by_cases hq : q - σ.1 ≤ 400
      · omega
      · have := (e (σ.1 + 400) (by omega) (by omega)).2
        omega
  · rw [if_neg h0] at h
    injection h with _ h2
    rw [h2] at h0
    exact absurd rfl h0
theorem needS_back {ok : Bool} {σ : St} {q : Nat} (h : needS ok σ = (q, 0)) : ok = true ∧ σ = (q, 0) := by
  unfold needS at h
  split at h
  · injection h with _ h2; cases h2
  · rename_i hn
    refine ⟨?_, h⟩
    rcases ok with _ | _
    · exact absurd ⟨by rw [h], rfl⟩ hn
    · rfl
theorem valS_back {σ : St} {V : ByteArray} {q : Nat} (hz : ∀ z ∈ b, 0 ≤ z ∧ z ≤ 255) (hk : Ok b σ) (h : valS b σ = (V, (q, 0))) :
    σ.2 = 0 ∧ Con b σ.1 q ([58, 32] ++ intsOf V.data.toList ++ [13, 10]) ∧ plainL V.data.toList = true := by
  unfold valS at h
  injection h with h1 h2
  obtain ⟨⟨p2, e2⟩, hu2⟩ : ∃ τ, (utS b 13 okB (blankS b (mtS b [58, 32] σ))).2 = τ := ⟨_, rfl⟩
  rw [h1, hu2] at h2
  have hku : Ok b (p2, e2) := by rw [← hu2]; exact utS_ok (blankS_ok (mtS_ok hk))
  obtain ⟨h3, h4⟩ := mtS_back (needS_ok hku) h2
  obtain ⟨p3, hn⟩ : ∃ p3, needS (plainL V.data.toList) (p2, e2) = (p3, 0) := ⟨_, Prod.ext rfl h3⟩
  rw [hn] at h4
  obtain ⟨h5, h6⟩ := needS_back hn
  injection h6 with h7 h8
  subst h7 h8
  have hu : utS b 13 okB (blankS b (mtS b [58, 32] σ)) = (V, (p2, 0)) := Prod.ext h1 hu2
  obtain ⟨g0, g1, g2, g3, g4, g5⟩ := utS_back hz hu
  have hb : blankS b (mtS b [58, 32] σ) = mtS b [58, 32] σ := by
    unfold blankS at g0 ⊢
    split
    · rename_i hc
      rw [if_pos hc] at g0; cases g0
    · rfl
  rw [hb] at g0 g1
  obtain ⟨p1, hm⟩ : ∃ p1, mtS b [58, 32] σ = (p1, 0) := ⟨_, Prod.ext rfl g0⟩
  rw [hm] at g1
  obtain ⟨k1, k2⟩ := mtS_back hk hm
  exact ⟨k1, (k2.app g1).app h4, h5⟩
theorem dgs_back {least p : Nat} : ∀ f i n m q, (i = p ∧ n = 0 ∨ p < i ∧ Con b p i (intsOf (Lib.decDigits n))) → i ≤ b.length → n ≤ 8000 → dgs b least p f i n = (m, (q, 0)) →
    Con b p q (intsOf (Lib.decDigits m)) ∧ m ≤ 8000 ∧ least ≤ m := by
  intro f
  induction f with
  | zero => intro i n m q _ _ _ h; simp [dgs] at h
  | succ f ih =>
    intro i n m q hc hi hn h
    by_cases h0 : b.length ≤ i
    · rw [dgs_short h0] at h; simp at h
    · by_cases h1 : b.getD i 0 = 13 ∧ p < i
      · by_cases h2 : n < least
        · rw [dgs_few (by omega) h1 h2] at h; simp at h
        · rw [dgs_end (by omega) h1 h2] at h
          simp only [Prod.mk.injEq] at h
          obtain ⟨rfl, rfl, _⟩ := h
          rcases hc with ⟨h3, _⟩ | ⟨_, h3⟩
          · omega
          · exact ⟨h3, hn, by omega⟩
      · by_cases h2 : b.getD i 0 < 48 ∨ 57 < b.getD i 0 ∨ (i = p + 1 ∧ n = 0) ∨ (i = p ∧ b.getD i 0 = 48 ∧ 0 < least)
        · rw [dgs_syn (by omega) h1 h2] at h; simp at h
        · by_cases h3 : 8000 < 10 * n + (b.getD i 0 - 48).toNat
          · rw [dgs_full (by omega) h1 h2 h3] at h; simp at h
          · rw [dgs_step (by omega) h1 h2 h3] at h
            have hone := Con.one (b := b) (p := i) (by omega)
            obtain ⟨d, hd⟩ : ∃ d : Nat, b.getD i 0 = 48 + (d : Int) := ⟨(b.getD i 0 - 48).toNat, by omega⟩
            have hd9 : d < 10 := by omega
            have hdd : (b.getD i 0 - 48).toNat = d := by omega
            rw [hd] at hone
            have hdg : ((digB d).toNat : Int) = 48 + d := by unfold digB; rw [UInt8.toNat_ofNat']; omega
            rw [hdd] at h h3
            refine ih (i + 1) (10 * n + d) m q (.inr ⟨by rcases hc with ⟨h, _⟩ | ⟨h, _⟩ <;> omega, ?_⟩) (by omega) (by omega) h
            rcases hc with ⟨rfl, rfl⟩ | ⟨hpi, hcon⟩
            · rw [show 10 * 0 + d = d by omega, dec_small hd9]
              refine hone.cast ?_
              show [48 + (d : Int)] = [((digB d).toNat : Int)]
              rw [hdg]
            · by_cases hn0 : n = 0
              · subst hn0
                -- one digit only: it was a nought
                have hl : (intsOf (Lib.decDigits 0)).length = i - p := by
                  have := congrArg List.length hcon.2.2
                  rw [List.length_take, List.length_drop] at this
                  have := hcon.2.1
                  omega
                rw [ints_len, dec_small (by omega)] at hl
                simp only [List.length_singleton] at hl
                exact absurd (.inr (.inr (.inl ⟨by omega, rfl⟩))) h2
              · rw [dec_big (n := 10 * n + d) (by omega), show (10 * n + d) / 10 = n by omega, show (10 * n + d) % 10 = d by omega, ints_app]
                refine (hcon.app hone).cast ?_
                show _ ++ [48 + (d : Int)] = _ ++ [((digB d).toNat : Int)]
                rw [hdg]
theorem lenS_back {least : Nat} {σ : St} {n q : Nat} (hk : Ok b σ) (h : lenS b least σ = (n, (q, 0))) :
    σ.2 = 0 ∧ Con b σ.1 q ([58, 32] ++ intsOf (Lib.decDigits n) ++ [13, 10]) ∧ n ≤ 8000 ∧ least ≤ n := by
  unfold lenS at h
  dsimp only at h
  split at h
  · rename_i h0
    obtain ⟨p1, hm⟩ : ∃ p1, mtS b [58, 32] σ = (p1, 0) := ⟨_, Prod.ext rfl h0⟩
    rw [hm] at h
    obtain ⟨k1, k2⟩ := mtS_back hk hm
    have hp1 := mtS_ok (s := [58, 32]) hk
    rw [hm] at hp1
    have hp1 := hp1 rfl
    simp only at hp1
    obtain ⟨⟨m, τ⟩, hd⟩ : ∃ r, dgs b least p1 (b.length + 1) p1 0 = r := ⟨_, rfl⟩
    simp only [hd, Prod.mk.injEq] at h
    obtain ⟨rfl, h2⟩ := h
    have hkt : Ok b τ := fun h1 => by
      have := dgs_ok (b := b) (least := least) (p := p1) (b.length + 1) p1 0 (by omega) (by rw [hd]; exact h1)
      rw [hd] at this; simp only at this; omega
    obtain ⟨h3, h4⟩ := mtS_back hkt h2
    obtain ⟨p2, e2⟩ := τ
    simp only at h3 h4
    subst h3
    obtain ⟨a, c, d⟩ := dgs_back (b.length + 1) p1 0 m p2 (.inl ⟨rfl, rfl⟩) hp1 (by omega) hd
    exact ⟨k1, (k2.app a).app h4, c, d⟩
  · rename_i h0
    simp only [Prod.mk.injEq] at h
    rw [h.2] at h0
    exact absurd rfl h0
theorem small_tok {c : UInt8} (h : smallB c = true) : tokB c = true := by
  unfold tokB; unfold smallB at h; rw [h]; rfl
theorem nmS_back {σ : St} {s : ByteArray} {q : Nat} (hz : ∀ z ∈ b, 0 ≤ z ∧ z ≤ 255) (h : nmS b σ = (s, (q, 0))) : σ.2 = 0 ∧ Con b σ.1 q (intsOf s.data.toList) ∧ nameL s.data.toList = true := by
  unfold nmS at h
  injection h with h1 h2
  obtain ⟨h3, h4⟩ := needS_back h2
  obtain ⟨g0, g1, g2, g3, _, _⟩ := utS_back hz (Prod.ext h1 h4 : utS b 58 smallB σ = (s, (q, 0)))
  refine ⟨g0, g1, ?_⟩
  rw [h1, emp_list] at h3
  unfold nameL tokL
  rw [Bool.and_eq_true, Bool.and_eq_true, Bool.and_eq_true]
  exact ⟨⟨⟨h3, decide_eq_true g3⟩, List.all_eq_true.2 fun c hc => small_tok (g2 c hc)⟩, List.all_eq_true.2 g2⟩
/-- How a head ends. -/
def tailL (n : Int) : List Int := if n = -1 then [13, 10] else intsOf [108, 101, 110, 103, 116, 104] ++ ([58, 32] ++ intsOf (Lib.decDigits n.toNat) ++ [13, 10]) ++ [13, 10]
theorem toList_of {s : ByteArray} {l : List UInt8} (h : (s.toList == l) = true) : s.data.toList = l := by
  have := eq_of_beq h
  rwa [ByteArray.toList_eq] at this
theorem hdS_back {f : Nat} : ∀ (l acc : List Fld) (σ : St) (n : Int) (k : Bool) (q : Nat), (∀ z ∈ b, 0 ≤ z ∧ z ≤ 255) → Ok b σ → acc.length ≤ 40 → hdS b 1 false f acc σ = ⟨l, n, k, (q, 0)⟩ →
    σ.2 = 0 ∧ ∃ l', l = acc ++ l' ∧ l.length ≤ 40 ∧ (∀ x ∈ l', nameL x.1.data.toList = true ∧ plainL x.2.data.toList = true ∧ ownB x.1 = false) ∧ Con b σ.1 q (intsOf (linesL l') ++ tailL n) ∧ (n = -1 ∨ (1 ≤ n ∧ n ≤ 8000)) := by
  induction f with
  | zero => intro l acc σ n k q _ _ _ h; simp [hdS] at h
  | succ f ih =>
    intro l acc σ n k q hz hk hacc h
    by_cases h0 : σ.2 = 0
    · refine ⟨h0, ?_⟩
      by_cases h13 : σ.1 < b.length ∧ b.getD σ.1 0 = 13
      · rw [hdS_end h0 h13] at h
        simp only [Hd.mk.injEq] at h
        obtain ⟨rfl, rfl, _, h2⟩ := h
        obtain ⟨_, h3⟩ := mtS_back hk h2
        exact ⟨[], by simp, hacc, by simp, by simpa [linesL, tailL, intsOf] using h3, .inl rfl⟩
      · rw [hdS_go h0 h13] at h
        have hkn : Ok b (nmS b σ).2 := needS_ok (utS_ok hk)
        obtain ⟨⟨s, ⟨p2, e2⟩⟩, hnm⟩ : ∃ u, nmS b σ = u := ⟨_, rfl⟩
        rw [hnm] at h hkn
        simp only at h hkn
        by_cases he : e2 = 0
        · subst he
          rw [if_neg (by simp)] at h
          obtain ⟨_, g1, g2⟩ := nmS_back hz hnm
          by_cases hl : (s.toList == [108, 101, 110, 103, 116, 104]) = true
          · rw [if_pos hl] at h
            simp only [Hd.mk.injEq] at h
            obtain ⟨rfl, rfl, _, h2⟩ := h
            obtain ⟨h3, h4⟩ := mtS_back (lenS_ok hkn) h2
            obtain ⟨⟨m, ⟨p3, e3⟩⟩, hln⟩ : ∃ r, lenS b 1 (p2, 0) = r := ⟨_, rfl⟩
            rw [hln] at h3 h4 ⊢
            simp only at h3 h4 ⊢
            subst h3
            obtain ⟨_, h5, h6, h7⟩ := lenS_back hkn hln
            refine ⟨[], by simp, hacc, by simp, ?_, .inr (by omega)⟩
            rw [toList_of hl] at g1
            have := (g1.app h5).app h4
            unfold tailL
            rw [if_neg (by omega), Int.toNat_natCast]
            simpa [linesL, intsOf] using this
          · rw [if_neg hl, if_neg (by simp)] at h
            by_cases ho : ownB s = true
            · rw [if_pos ho] at h; simp at h
            · rw [if_neg ho] at h
              by_cases h40 : acc.length = 40
              · rw [if_pos h40] at h; simp at h
              · rw [if_neg h40] at h
                obtain ⟨⟨V, τ⟩, hv⟩ : ∃ u, valS b (p2, 0) = u := ⟨_, rfl⟩
                have hkv := valS_ok hkn
                rw [hv] at h hkv
                obtain ⟨t0, l', t1, t2, t3, t4, t5⟩ := ih l (acc ++ [(s, V)]) τ n k q hz hkv (by rw [List.length_append, List.length_singleton]; omega) h
                obtain ⟨p3, e3⟩ := τ
                simp only at t0 t4
                subst t0
                obtain ⟨_, v1, v2⟩ := valS_back hz hkn hv
                refine ⟨(s, V) :: l', by rw [t1, List.append_assoc]; rfl, t2, ?_, ?_, t5⟩
                · intro x hx
                  rcases List.mem_cons.1 hx with rfl | hx
                  · exact ⟨g2, v2, by simpa using ho⟩
                  · exact t3 x hx
                · have := (g1.app v1).app t4
                  refine this.cast ?_
                  have hcat : linesL ((s, V) :: l') = lineF (s, V) ++ linesL l' := rfl
                  rw [hcat, ints_app]
                  unfold lineF
                  simp [intsOf]
        · rw [if_pos he] at h
          simp only [Hd.mk.injEq, Prod.mk.injEq] at h
          exact absurd h.2.2.2.2 he
    · rw [hdS_err h0] at h
      simp only [Hd.mk.injEq] at h
      rw [h.2.2.2] at h0
      exact absurd rfl h0
theorem fieldsE_zero {l : List Fld} (h : ∀ x ∈ l, nameL x.1.data.toList = true ∧ plainL x.2.data.toList = true ∧ ownB x.1 = false) : fieldsE l = 0 := by
  unfold fieldsE
  induction l with
  | nil => rfl
  | cons x l ih =>
    obtain ⟨h1, h2, h3⟩ := h x (by simp)
    have hx : fieldE1 x = 0 := by unfold fieldE1; rw [h1, h2, h3]; rfl
    unfold firstE
    rw [hx, if_neg (by simp)]
    exact ih (fun y hy => h y (by simp [hy]))
theorem vis_ok {c : UInt8} (h : visB c = true) : okB c = true ∧ c ≠ 32 := by
  unfold visB at h
  rw [Bool.and_eq_true, decide_eq_true_eq, decide_eq_true_eq] at h
  refine ⟨?_, fun e => by rw [e] at h; exact absurd h.1 (by decide)⟩
  unfold okB
  rw [Bool.and_eq_true, decide_eq_true_eq, decide_eq_true_eq]
  omega
/-- What is read of any bytes as a request is right, and told as these bytes. -/
theorem askC_back {q : Rq} {n : Nat} (hz : ∀ z ∈ b, 0 ≤ z ∧ z ≤ 255) (h : askC b = (q, (n, 0))) : askE q = 0 ∧ askBytes q = b.take n ∧ n ≤ b.length := by
  unfold askC at h
  dsimp only at h
  have k0 : Ok b (0, 0) := fun _ => Nat.zero_le _
  obtain ⟨m, hm⟩ : ∃ m, utS b 32 tokB (0, 0) = m := ⟨_, rfl⟩
  have K1 : Ok b m.2 := by rw [← hm]; exact utS_ok k0
  rw [hm] at h
  obtain ⟨σ2, h2⟩ : ∃ τ, needS (!m.1.toList.isEmpty) m.2 = τ := ⟨_, rfl⟩
  have K2 : Ok b σ2 := by rw [← h2]; exact needS_ok K1
  rw [h2] at h
  obtain ⟨σ3, h3⟩ : ∃ τ, mtS b [32] σ2 = τ := ⟨_, rfl⟩
  have K3 : Ok b σ3 := by rw [← h3]; exact mtS_ok K2
  rw [h3] at h
  obtain ⟨pt, h4⟩ : ∃ u, utS b 32 visB σ3 = u := ⟨_, rfl⟩
  have K4 : Ok b pt.2 := by rw [← h4]; exact utS_ok K3
  rw [h4] at h
  obtain ⟨σ5, h5⟩ : ∃ τ, needS (!pt.1.toList.isEmpty) pt.2 = τ := ⟨_, rfl⟩
  have K5 : Ok b σ5 := by rw [← h5]; exact needS_ok K4
  rw [h5] at h
  obtain ⟨σ6, h6⟩ : ∃ τ, mtS b [32, 69, 68, 71, 69, 47, 49, 13, 10, 104, 111, 115, 116] σ5 = τ := ⟨_, rfl⟩
  have K6 : Ok b σ6 := by rw [← h6]; exact mtS_ok K5
  rw [h6] at h
  obtain ⟨ho, h7⟩ : ∃ u, valS b σ6 = u := ⟨_, rfl⟩
  have K7 : Ok b ho.2 := by rw [← h7]; exact valS_ok K6
  rw [h7] at h
  obtain ⟨σ8, h8⟩ : ∃ τ, needS (!ho.1.toList.isEmpty) ho.2 = τ := ⟨_, rfl⟩
  have K8 : Ok b σ8 := by rw [← h8]; exact needS_ok K7
  rw [h8] at h
  obtain ⟨⟨l, dn, dk, ⟨p9, e9⟩⟩, hD⟩ : ∃ D, hdS b 1 false 42 [] σ8 = D := ⟨_, rfl⟩
  have K9 := hdS_ok (b := b) (least := 1) (coded := false) 42 [] σ8 K8
  rw [hD] at h K9
  simp only at h K9
  injection h with hq hτ
  -- the body
  have hbody : ∃ B, q = ⟨m.1, pt.1, ho.1, l, B⟩ ∧ e9 = 0 ∧ ((dn ≤ 0 ∧ B = [] ∧ p9 = n) ∨ (0 < dn ∧ Con b p9 n B ∧ B.length = dn.toNat)) := by
    by_cases hd : 0 < dn
    · rw [if_pos hd] at hq hτ
      unfold bodyS at hq hτ
      by_cases he : e9 = 0
      · subst he
        rw [if_neg (by simp)] at hq hτ
        by_cases hs : b.length - p9 < dn.toNat
        · rw [if_pos hs] at hτ; simp at hτ
        · rw [if_neg hs] at hq hτ
          simp only [Prod.mk.injEq, and_true] at hτ
          have hp9 := K9 rfl
          simp only at hp9
          refine ⟨_, hq.symm, rfl, .inr ⟨hd, ⟨by omega, by omega, by rw [← hτ]; congr 1; omega⟩, ?_⟩⟩
          simp only [List.length_take, List.length_drop]; omega
      · rw [if_pos he] at hτ
        simp only [Prod.mk.injEq] at hτ
        exact absurd hτ.2 he
    · rw [if_neg hd] at hq hτ
      simp only [Prod.mk.injEq] at hτ
      exact ⟨[], hq.symm, hτ.2, .inl ⟨by omega, rfl, hτ.1⟩⟩
  obtain ⟨B, rfl, rfl, hB⟩ := hbody
  obtain ⟨d0, l', d1, d2, d3, d4, d5⟩ := hdS_back (b := b) (f := 42) l [] σ8 dn dk p9 hz K8 (by simp) hD
  rw [List.nil_append] at d1
  subst d1
  obtain ⟨p8, e8⟩ := σ8
  simp only at d0 d4
  subst d0
  obtain ⟨n8, m8⟩ := needS_back h8
  obtain ⟨v1, v2, v3⟩ := valS_back hz K6 (show valS b σ6 = (ho.1, (p8, 0)) by rw [h7, ← m8])
  obtain ⟨p6, e6⟩ := σ6
  simp only at v1 v2
  subst v1
  obtain ⟨w1, w2⟩ := mtS_back K5 h6
  obtain ⟨p5, e5⟩ := σ5
  simp only at w1 w2
  subst w1
  obtain ⟨n5, m5⟩ := needS_back h5
  obtain ⟨u1, u2, u3, u4, _, _⟩ := utS_back hz (show utS b 32 visB σ3 = (pt.1, (p5, 0)) by rw [h4, ← m5])
  obtain ⟨p3, e3⟩ := σ3
  simp only at u1 u2
  subst u1
  obtain ⟨x1, x2⟩ := mtS_back K2 h3
  obtain ⟨p2, e2⟩ := σ2
  simp only at x1 x2
  subst x1
  obtain ⟨n2, m2⟩ := needS_back h2
  obtain ⟨_, y2, y3, y4, _, _⟩ := utS_back hz (show utS b 32 tokB (0, 0) = (m.1, (p2, 0)) by rw [hm, ← m2])
  rw [emp_list] at n2 n5
  have htok : tokL m.1.data.toList = true := by
    unfold tokL; rw [Bool.and_eq_true, Bool.and_eq_true]; exact ⟨⟨n2, decide_eq_true y4⟩, List.all_eq_true.2 y3⟩
  have hpl : plainL pt.1.data.toList = true := by
    unfold plainL
    rw [Bool.and_eq_true, Bool.and_eq_true, Bool.and_eq_true]
    refine ⟨⟨⟨decide_eq_true u4, ?_⟩, ?_⟩, List.all_eq_true.2 fun c hc => (vis_ok (u3 c hc)).1⟩
    · rw [bne_iff_ne]
      intro e
      exact (vis_ok (u3 32 (List.mem_of_mem_head? e))).2 rfl
    · rw [bne_iff_ne]
      intro e
      exact (vis_ok (u3 32 (List.mem_of_getLast? e))).2 rfl
  have hword : wordL pt.1.data.toList = true := by
    unfold wordL
    rw [Bool.and_eq_true, Bool.and_eq_true]
    refine ⟨⟨n5, hpl⟩, ?_⟩
    rw [Bool.not_eq_true']
    rcases hc : pt.1.data.toList.contains 32 with _ | _
    · rfl
    · exact absurd rfl (vis_ok (u3 32 (List.contains_iff_mem.1 hc))).2
  have hBlen : B.length ≤ 8000 := by
    rcases hB with ⟨_, h, _⟩ | ⟨_, _, h⟩
    · rw [h]; simp
    · rcases d5 with h5 | h5 <;> omega
  have hE : askE ⟨m.1, pt.1, ho.1, l, B⟩ = 0 := by
    unfold askE fullB
    simp only
    rw [if_neg (by simp only [Bool.or_eq_true, decide_eq_true_eq]; omega), htok, hword, v3, fieldsE_zero d3]
    have : ho.1.toList.isEmpty = false := by simpa using n8
    rw [this]
    rfl
  have hall := (((((y2.app x2).app u2).app w2).app v2).app d4)
  have hfin : Con b 0 n (askBytes ⟨m.1, pt.1, ho.1, l, B⟩) := by
    unfold askBytes askHead
    simp only
    rcases hB with ⟨hd, rfl, rfl⟩ | ⟨hd, hcon, hlen⟩
    · refine hall.cast ?_
      rcases d5 with h5 | h5
      · unfold tailL lenL
        rw [if_pos h5]
        simp [intsOf]
      · omega
    · refine (hall.app hcon).cast ?_
      unfold tailL lenL
      rw [if_neg (by omega), hlen, if_neg (by omega)]
      simp [intsOf]
  refine ⟨hE, ?_, hfin.2.1⟩
  have := hfin.2.2
  rw [List.drop_zero, Nat.sub_zero] at this
  exact this.symm
end Go.Proofs.YtkohbbnnjakhjaaGreatDoor.ReadS
