/-
  The reference's ParseRoutes over this seat's translation, exactly.
  Conditions: the text's length.
-/
import Derived.Test.YteadmakhcpjpnaaDoorParseRefP
import Derived.Test.YteadmakhcpjpnaaDoorRouteRef
import Derived.Test.YteadmakhcpjpnaaDoorParse
import Derived.StillTailTactics
import Derived.RegionTactic
import Derived.ChangeAlike
import Derived.BigRegion
import Derived.Deep.RegionHeld3
namespace Go.Proofs.YteadmakhcpjpnaaDoor.RouteC
open Go.RowKit Go.Shelf RowsK LinesP LineC LogP CutC
set_option linter.unusedVariables false
set_option linter.unusedSimpArgs false

theorem words32 (s : ByteArray) : wordsC 32 s = wordsOf s := map_data_inj (by rw [wordsC_data, words_data])
theorem pieceC_le (s x : ByteArray) (h : x ∈ wordsC 10 s) : x.size ≤ s.size := by
  have hm : x.data.toList ∈ Lib.split s.data.toList [10] := by
    rw [← wordsC_data]
    exact List.mem_map.2 ⟨x, h, rfl⟩
  have h1 := join_ge 10 _ _ hm
  rw [(LogP.join_split 10 _ _ (Nat.le_refl _)).1] at h1
  rw [size_list, size_list]
  exact h1
/-- A round that goes on. -/
theorem take_step {cs : List ByteArray} {i : Nat} {rl : List RT} {p : ByteArray} (hp : cs[i]? = some p) (hs : stepsU [] (cs.take i) = (0, rl)) : stepsU [] (cs.take (i + 1)) = stepB rl (wordsOf p) true := by
  obtain ⟨hi, hp2⟩ := List.getElem?_eq_some_iff.1 hp
  rw [List.take_succ_eq_append_getElem hi, hp2, stepsU_snoc _ _ _ (by rw [hs]), hs]
/-- A fault ahead of the last piece. -/
theorem parse_fault {s : ByteArray} {i M : Nat} {rl rl' : List RT} {p : ByteArray} {k : Int} (hM : (wordsC 10 s).length = M + 1) (hi : i < M) (hp : (wordsC 10 s)[i]? = some p) (hs : stepsU [] ((wordsC 10 s).take i) = (0, rl)) (hb : stepB rl (wordsOf p) true = (k, rl')) (hk : k ≠ 0) :
    parseP s.data.toList = ([], (rl'.length : Int), k) := by
  obtain ⟨ps, q, hq⟩ : ∃ ps q, wordsC 10 s = ps ++ [q] := ⟨_, _, (List.dropLast_concat_getLast (words_ne s)).symm⟩
  have hlen : ps.length = M := by rw [hq] at hM; simpa using hM
  have h1 : stepsU [] (ps.take (i + 1)) = (k, rl') := by
    have h := take_step hp hs
    rw [hq, List.take_append_of_le_length (by omega)] at h
    rw [h, hb]
  have h2 : stepsU [] ps = (k, rl') := by
    rw [← List.take_append_drop (i + 1) ps, stepsU_stop _ _ _ (by rw [h1]; exact hk), h1]
  unfold parseP
  simp only
  rw [parse_words s ps q hq, h2]
  simp only
  rw [if_neg hk]
  simp only
  rw [if_neg hk]
/-- The last piece. -/
theorem parse_last {s : ByteArray} {M : Nat} {rl : List RT} {p : ByteArray} (hM : (wordsC 10 s).length = M + 1) (hp : (wordsC 10 s)[M]? = some p) (hs : stepsU [] ((wordsC 10 s).take M) = (0, rl)) :
    parseP s.data.toList = if p.data.toList = [] then (rl, 0, 0) else ([], (rl.length : Int), 2) := by
  obtain ⟨ps, q, hq⟩ : ∃ ps q, wordsC 10 s = ps ++ [q] := ⟨_, _, (List.dropLast_concat_getLast (words_ne s)).symm⟩
  have hlen : ps.length = M := by rw [hq] at hM; simpa using hM
  rw [hq, List.take_append_of_le_length (by omega), List.take_of_length_le (by omega)] at hs
  have hpq : q = p := by rw [hq, ← hlen, List.getElem?_append_right (by omega)] at hp; simpa using hp
  subst hpq
  unfold parseP
  simp only
  rw [parse_words s ps q hq, hs]
  simp only [if_pos]
  by_cases hq0 : q.data.toList = []
  · rw [if_pos hq0, if_pos hq0]; simp
  · rw [if_neg hq0, if_neg hq0]; simp
def SzR (l : List RT) : Prop := ∀ r ∈ l, r.host.size ≤ maxLen ∧ r.path.size ≤ maxLen ∧ r.dest.size ≤ maxLen
theorem rroute_q (v : Value) (l : List RT) (w : World) (hl : At encR w v l) (hsz : SzR l) (i : Nat) (hi : i < l.length) (r : RT) (hr : l[i] = r) :
    Calls Tryd.prog 20 #[v, .int .i64 i] w fun e w' => e = .returned (.int .i64 (routeE l i r)) ∧ Below w.heap.size w w' := by
  subst hr
  exact rroute_any v l w hl hsz i hi
theorem szr_snoc {l : List RT} {r : RT} (h : SzR l) (h0 : r.host.size ≤ maxLen) (h1 : r.path.size ≤ maxLen) (h2 : r.dest.size ≤ maxLen) : SzR (l ++ [r]) := fun x hx => by
  rcases List.mem_append.1 hx with hx | hx
  · exact h x hx
  · rw [List.mem_singleton.1 hx]; exact ⟨h0, h1, h2⟩
theorem szr_nil : SzR [] := fun r hr => by cases hr
set_option maxRecDepth 100000 in
set_option maxHeartbeats 40000000 in
theorem rparse_any (s : ByteArray) (hs : s.size < 4294967281) (w : World) : Calls Tryd.prog 9 #[.string s] w fun e w' =>
    ∃ v l k er, e = .returned (.tuple #[v, .int .i64 k, .int .i64 er]) ∧ (l, k, er) = parseP s.data.toList ∧ At encR w' v l ∧ Below w.heap.size w w' := by
  have HC10 := Lib.hid (fun W => cut_any 10 10 (by decide) s hs W)
  obtain ⟨M, hM⟩ : ∃ M, (wordsC 10 s).length = M + 1 := ⟨(wordsC 10 s).length - 1, by have := List.length_pos_iff.2 (words_ne s); omega⟩
  have HMB : Hid (M + 1 ≤ 4294967281) := by
    show _ ≤ _
    have h1 := (LogP.join_split 10 s.data.toList.length s.data.toList (Nat.le_refl _)).1
    have h2 : (wordsC 10 s).length ≤ s.size + 1 := by
      have h3 := flat_len 10 (wordsC 10 s).dropLast
      have h4 := join_flat 10 (wordsC 10 s).dropLast ((wordsC 10 s).getLast (words_ne s))
      rw [List.dropLast_concat_getLast, wordsC_data, h1] at h4
      have h5 : (flatB 10 (wordsC 10 s).dropLast).length ≤ s.size := by rw [size_list, h4, List.length_append]; omega
      rw [List.length_dropLast] at h3
      omega
    omega
  have HLE : Hid (∀ x ∈ wordsC 10 s, x.size ≤ s.size) := fun x hx => pieceC_le s x hx
  have HSZ := Lib.hid hs
  have HM := Lib.hid hM
  clear hs hM
  go_enter Tryd.func9, Tryd.ntmps9
  go_wp2_with (first
    | (go_at_call 19; (with_reducible refine (HC10.out _).mono ?_); rintro e w1 ⟨v, rfl, hO, hB1⟩; obtain ⟨lb, lc, rfl, hlc, hlc2, hlb, hlb2, hel⟩ := hO.slice1 (M + 1) HM.out (by omega); have HEL := Lib.hid hel; have HB1 := Lib.hid hB1; have HLB := Lib.hid hlb; clear hO hel hB1 hlb)
    | fail)
  go_loopw [5, 7] (fun v5 i wr => ∃ (k n : Nat) (rl : List RT) (a : Option Addr) (cp : Nat), i = .int .i64 (k : Int) ∧ k ≤ M + 1 ∧ v5 = .slice a n cp ∧ n ≤ k ∧ Hid (n = rl.length ∧ RowsK.Own encR wr w1.heap.size 28 (.slice a n cp) rl ∧ Below w1.heap.size w1 wr ∧ SzR rl ∧ ((k < M + 1 ∧ n = k ∧ stepsU [] ((wordsC 10 s).take k) = (0, rl)) ∨ (k = M + 1 ∧ parseP s.data.toList = (rl, 0, 0))))) (fun _ i _ => M + 1 - (intOf i).toNat)
  case atStart => exact ⟨0, 0, [], none, 0, rfl, by omega, rfl, by omega, Lib.hid ⟨rfl, RowsK.Own.nil _ _ _ _, Below.refl _ _, szr_nil, .inl ⟨by omega, rfl, rfl⟩⟩⟩
  case round =>
    obtain ⟨k, n, rl, a, cp, rfl, hk, rfl, hn, HR⟩ := hrel
    have hM0 : 0 ≤ (M : Int) := by omega
    have hw1 : IntKind.i64.wrap (M : Int) = (M : Int) := by have := HMB.out; rw [IntKind.wrap_i64]; omega
    have hw2 : IntKind.i64.wrap (((M + 1 : Nat) : Int) - 1) = (M : Int) := by have := HMB.out; rw [IntKind.wrap_i64]; omega
    by_cases hlt : k < M + 1
    · have hkn : 0 ≤ (k : Int) := by omega
      have hkM : (k : Int) < (M : Int) + 1 := by omega
      obtain ⟨p, hp⟩ : ∃ p, (wordsC 10 s)[k]? = some p := ⟨_, List.getElem?_eq_getElem (by rw [HM.out]; exact hlt)⟩
      have hpc : wr.cell? ⟨lb, k, none⟩ = some (.string p) := by
        obtain ⟨hk2, hp2⟩ := List.getElem?_eq_some_iff.1 hp
        have h := HEL.out k hk2 0 (by decide)
        rw [hp2] at h
        rw [HR.out.2.2.1.cell (p := ⟨lb, k, none⟩) hlb2]
        simpa [encT] using h
      have HP := Lib.hid hp
      have HPS := Lib.hid (show p.size ≤ s.size from HLE.out p (List.mem_of_getElem? hp))
      have HCP := Lib.hid (fun W => cut_any 32 32 (by decide) p (by have := HPS.out; have := HSZ.out; omega) W)
      have hH : Hid (n = rl.length ∧ n = k ∧ stepsU [] ((wordsC 10 s).take k) = (0, rl)) := by
        obtain ⟨h1, -, -, -, h | h⟩ := HR.out
        · exact ⟨h1, h.2⟩
        · omega
      clear hp
      by_cases hlast : k = M
      · subst hlast
        have he : ((k : Int) == (k : Int)) = true := beq_self_eq_true _
        by_cases hq : p = ⟨#[]⟩
        · subst hq
          go_wp2_with fail
          go_roundw
          case rel => exact ⟨k + 1, n, rl, a, cp, by simp, by omega, rfl, by omega, hH.out.1, HR.out.2.1, HR.out.2.2.1, HR.out.2.2.2.1, .inr ⟨rfl, by rw [parse_last HM.out HP.out hH.out.2.2]; rfl⟩⟩
          case measure => simp [intOf]
        · have hq1 : p.data.toList ≠ [] := fun e => hq (by cases p; simp only at e; exact congrArg ByteArray.mk (Array.toList_inj.1 e))
          have hq2 : (p.toList == ([] : List UInt8)) = false := by rw [beq_eq_false_iff_ne, ByteArray.toList_eq]; exact hq1
          have hq3 : p.toList ≠ [] := by rw [ByteArray.toList_eq]; exact hq1
          have HQ := Lib.hid hq1
          clear hq hq1
          go_wp2_with (first
            | (go_at_call 19; (with_reducible refine (HCP.out _).mono ?_); rintro e w2 ⟨v2, rfl, hO2, hB2⟩; have HB2 := Lib.hid hB2; clear hO2 hB2)
            | fail)
          refine bodyPost_ret (results_tmp3 rfl _ _ _) rfl ⟨_, [], _, _, rfl, ?_, (RowsK.Own.nil encR _ 0 28).at_, HB1.out.trans ((HR.out.2.2.1.mono HB1.out.size).trans (HB2.out.mono (Nat.le_trans HB1.out.size HR.out.2.2.1.size)))⟩
          rw [parse_last HM.out HP.out hH.out.2.2, if_neg HQ.out, ← hH.out.1, hH.out.2.1]
      · have hkM2 : k < M := by omega
        have he : ((k : Int) == (M : Int)) = false := by rw [beq_eq_false_iff_ne]; omega
        have HFA := Lib.hid (fun (kk : Int) (rl' : List RT) (h : stepB rl (wordsOf p) true = (kk, rl')) (h0 : kk ≠ 0) => parse_fault HM.out hkM2 HP.out hH.out.2.2 h h0)
        have HTA := Lib.hid (take_step HP.out hH.out.2.2)
        have HWL := Lib.hid (fun x hx => piece_le p x hx)
        rw [words32] at HCP
        obtain ⟨ws, hws⟩ : ∃ ws, wordsOf p = ws := ⟨_, rfl⟩
        rw [hws] at HCP HFA HTA HWL
        clear hws
        by_cases hw3 : ws.length = 3
        · obtain ⟨p0, p1, p2, rfl⟩ : ∃ a b c, ws = [a, b, c] := by
            match ws, hw3 with
            | [a, b, c], _ => exact ⟨a, b, c, rfl⟩
          clear hw3
          by_cases hfull : k = 20
          · have hf2 : ((k : Int) == 20) = true := by rw [beq_iff_eq]; omega
            have HST := Lib.hid (step_full (l := rl) (a := p0) (b := p1) (c := p2) (by rw [← hH.out.1, hH.out.2.1]; exact hfull))
            clear hfull
            go_wp2_with (first
              | (go_at_call 19; (with_reducible refine (HCP.out _).mono ?_); rintro e w2 ⟨v2, rfl, hO2, hB2⟩; obtain ⟨b2, c2, rfl, hc2, hc3, hb2, hb3, hel2⟩ := hO2.slice1 3 rfl (by omega); have g0 := hel2 0 (by simp) 0 (by decide); have g1 := hel2 1 (by simp) 0 (by decide); have g2 := hel2 2 (by simp) 0 (by decide); change w2.cell? ⟨b2, 0, none⟩ = some (Value.string p0) at g0; change w2.cell? ⟨b2, 1, none⟩ = some (Value.string p1) at g1; change w2.cell? ⟨b2, 2, none⟩ = some (Value.string p2) at g2; have HB2 := Lib.hid hB2; clear hO2 hB2 hel2)
              | fail)
            refine bodyPost_ret (results_tmp3 rfl _ _ _) rfl ⟨_, [], _, _, rfl, ?_, (RowsK.Own.nil encR _ 0 28).at_, HB1.out.trans ((HR.out.2.2.1.mono HB1.out.size).trans (HB2.out.mono (Nat.le_trans HB1.out.size HR.out.2.2.1.size)))⟩
            rw [HFA.out 4 rl (HST.out) (by decide), ← hH.out.1, hH.out.2.1]
          · by_cases ha : p0 = ⟨#[]⟩
            · have hf2 : ((k : Int) == 20) = false := by rw [beq_eq_false_iff_ne]; omega
              have HST := Lib.hid (step_none (l := rl) (a := p0) (b := p1) (c := p2) (by rw [← hH.out.1, hH.out.2.1]; exact hfull) (by rw [ha]))
              subst ha
              clear hfull
              go_wp2_with (first
                | (go_at_call 19; (with_reducible refine (HCP.out _).mono ?_); rintro e w2 ⟨v2, rfl, hO2, hB2⟩; obtain ⟨b2, c2, rfl, hc2, hc3, hb2, hb3, hel2⟩ := hO2.slice1 3 rfl (by omega); have g0 := hel2 0 (by simp) 0 (by decide); have g1 := hel2 1 (by simp) 0 (by decide); have g2 := hel2 2 (by simp) 0 (by decide); change w2.cell? ⟨b2, 0, none⟩ = some (Value.string ⟨#[]⟩) at g0; change w2.cell? ⟨b2, 1, none⟩ = some (Value.string p1) at g1; change w2.cell? ⟨b2, 2, none⟩ = some (Value.string p2) at g2; have HB2 := Lib.hid hB2; clear hO2 hB2 hel2)
                | fail)
              refine bodyPost_ret (results_tmp3 rfl _ _ _) rfl ⟨_, [], _, _, rfl, ?_, (RowsK.Own.nil encR _ 0 28).at_, HB1.out.trans ((HR.out.2.2.1.mono HB1.out.size).trans (HB2.out.mono (Nat.le_trans HB1.out.size HR.out.2.2.1.size)))⟩
              rw [HFA.out 2 rl (HST.out) (by decide), ← hH.out.1, hH.out.2.1]
            · have ha1 : p0.data.toList ≠ [] := fun e => ha (by cases p0; simp only at e; exact congrArg ByteArray.mk (Array.toList_inj.1 e))
              have ha2 : (p0.toList == ([] : List UInt8)) = false := by rw [beq_eq_false_iff_ne, ByteArray.toList_eq]; exact ha1
              have ha3 : p0.toList ≠ [] := by rw [ByteArray.toList_eq]; exact ha1
              have hf2 : ((k : Int) == 20) = false := by rw [beq_eq_false_iff_ne]; omega
              have HSM := Lib.hid (step_more (l := rl) (a := p0) (b := p1) (c := p2) (by rw [← hH.out.1, hH.out.2.1]; exact hfull) ha1)
              clear ha ha1 hfull
              obtain rfl : n = k := hH.out.2.1
              by_cases hst : p0 = ⟨#[42]⟩
              · have HRT : Hid (routeB p0 p1 p2 = ⟨⟨#[]⟩, p1, p2⟩) := by show _ = _; unfold routeB; rw [if_pos (by rw [hst])]
                subst hst
                have HRQ : Hid (∀ W v, At encR W v (rl ++ [⟨⟨#[]⟩, p1, p2⟩]) → Calls Tryd.prog 20 #[v, .int .i64 (n : Int)] W fun e w' => e = .returned (.int .i64 (routeE (rl ++ [⟨⟨#[]⟩, p1, p2⟩]) rl.length ⟨⟨#[]⟩, p1, p2⟩)) ∧ Below W.heap.size W w') := fun W v hv => by
                  rw [hH.out.1]
                  exact rroute_q v _ W hv (szr_snoc HR.out.2.2.2.1 (by unfold maxLen; simp only; decide) (by have h1 := HWL.out p1 (by simp); have h2 := HPS.out; have h3 := HSZ.out; unfold maxLen; simp only; omega) (by have h1 := HWL.out p2 (by simp); have h2 := HPS.out; have h3 := HSZ.out; unfold maxLen; simp only; omega)) rl.length (by simp) ⟨⟨#[]⟩, p1, p2⟩ (by simp)
                rw [HRT.out] at HSM
                generalize routeE (rl ++ [⟨⟨#[]⟩, p1, p2⟩]) rl.length ⟨⟨#[]⟩, p1, p2⟩ = ke at HRQ HSM
                have HSZR : Hid (SzR (rl ++ [⟨⟨#[]⟩, p1, p2⟩])) := szr_snoc HR.out.2.2.2.1 (by unfold maxLen; simp only; decide) (by have h1 := HWL.out p1 (by simp); have h2 := HPS.out; have h3 := HSZ.out; unfold maxLen; simp only; omega) (by have h1 := HWL.out p2 (by simp); have h2 := HPS.out; have h3 := HSZ.out; unfold maxLen; simp only; omega)
                have hke : ke = 0 ∨ (ke != 0) = true := by by_cases h : ke = 0; exact .inl h; exact .inr (bne_iff_ne.2 h)
                go_wp2_with (first
                  | (go_at_call 19; (with_reducible refine (HCP.out _).mono ?_); rintro e w2 ⟨v2, rfl, hO2, hB2⟩; obtain ⟨b2, c2, rfl, hc2, hc3, hb2, hb3, hel2⟩ := hO2.slice1 3 rfl (by omega); have g0 := hel2 0 (by simp) 0 (by decide); have g1 := hel2 1 (by simp) 0 (by decide); have g2 := hel2 2 (by simp) 0 (by decide); change w2.cell? ⟨b2, 0, none⟩ = some (Value.string ⟨#[42]⟩) at g0; change w2.cell? ⟨b2, 1, none⟩ = some (Value.string p1) at g1; change w2.cell? ⟨b2, 2, none⟩ = some (Value.string p2) at g2; have HB2 := Lib.hid hB2; clear hO2 hB2 hel2)
                  | fail)
                have e0 := (World.cell?_of_block (w := w2) (w' := w2.alloc (.cells #[.string ⟨#[]⟩, .string ⟨#[]⟩, .string ⟨#[]⟩] 28)) (a := ⟨b2, 0, none⟩) (Below.heap_alloc _ _ _ hb3)).trans g0
                have e1 := (World.cell?_of_block (w := w2) (w' := w2.alloc (.cells #[.string ⟨#[]⟩, .string ⟨#[]⟩, .string ⟨#[]⟩] 28)) (a := ⟨b2, 1, none⟩) (Below.heap_alloc _ _ _ hb3)).trans g1
                have e2 := (World.cell?_of_block (w := w2) (w' := w2.alloc (.cells #[.string ⟨#[]⟩, .string ⟨#[]⟩, .string ⟨#[]⟩] 28)) (a := ⟨b2, 2, none⟩) (Below.heap_alloc _ _ _ hb3)).trans g2
                go_region_held3 (fun w' => w'.cell? ⟨b2, 0, none⟩ = some (.string ⟨#[42]⟩) ∧ w'.cell? ⟨b2, 1, none⟩ = some (.string p1) ∧ w'.cell? ⟨b2, 2, none⟩ = some (.string p2)) (first | exact ⟨g0, g1, g2⟩ | exact ⟨e0, e1, e2⟩ | go_keep) (fail)
                clear e0 e1 e2 g0 g1 g2
                have hx : ∀ W3, (w2.alloc (.cells #[.string ⟨#[42]⟩, .string p1, .string p2] 28)).drew = W3 → Below w2.heap.size w2 W3 ∧ w2.heap.size < W3.heap.size ∧ W3.cell? ⟨w2.heap.size, 0, none⟩ = some (.string ⟨#[42]⟩) ∧ W3.cell? ⟨w2.heap.size, 1, none⟩ = some (.string p1) ∧ W3.cell? ⟨w2.heap.size, 2, none⟩ = some (.string p2) ∧ W3.frozen? ⟨w2.heap.size, 0, none⟩ = false ∧ RowsK.Own encR W3 w1.heap.size 28 (.slice a n cp) rl := by
                  rintro W3 rfl
                  exact ⟨((Below.refl _ _).alloc (Nat.le_refl _) _).drew, by simp, by simp, by simp, by simp, by simp, ((HR.out.2.1.of_block fun q hq => HB2.out.block q (HR.out.2.1.lt q hq).2).alloc _).drew⟩
                obtain ⟨W3, hW3⟩ : ∃ W3, (w2.alloc (.cells #[.string ⟨#[42]⟩, .string p1, .string p2] 28)).drew = W3 := ⟨_, rfl⟩
                obtain ⟨hB3, hz3, r0, r1, r2, f0, hO3⟩ := hx W3 hW3
                rw [hW3]
                clear hW3 hx
                have t0 : (W3.setCell ⟨w2.heap.size, 0, none⟩ (.string ⟨#[]⟩)).cell? ⟨w2.heap.size, 0, none⟩ = some (.string ⟨#[]⟩) := World.cell?_setCell_same _ _ _ r0
                have t1 : (W3.setCell ⟨w2.heap.size, 0, none⟩ (.string ⟨#[]⟩)).cell? ⟨w2.heap.size, 1, none⟩ = some (.string p1) := (World.cell?_setCell_other _ _ _ _ (by simp)).trans r1
                have t2 : (W3.setCell ⟨w2.heap.size, 0, none⟩ (.string ⟨#[]⟩)).cell? ⟨w2.heap.size, 2, none⟩ = some (.string p2) := (World.cell?_setCell_other _ _ _ _ (by simp)).trans r2
                have HZW : Hid ((W3.setCell ⟨w2.heap.size, 0, none⟩ (.string ⟨#[]⟩)).heap.size = W3.heap.size) := by show _ = _; simp
                have HO3 : Hid (RowsK.Own encR (W3.setCell ⟨w2.heap.size, 0, none⟩ (.string ⟨#[]⟩)) w1.heap.size 28 (.slice a n cp) rl) := hO3.setCell _ _ fun e => by have := (HR.out.2.1.lt _ e).2; have := HB2.out.size; (try simp only at *); omega
                have HB3 : Hid (Below w2.heap.size w2 (W3.setCell ⟨w2.heap.size, 0, none⟩ (.string ⟨#[]⟩))) := hB3.setCell (Nat.le_refl _) _
                clear hO3 hB3
                have HOW : Hid (RowsK.Own encR ((W3.setCell ⟨w2.heap.size, 0, none⟩ (.string ⟨#[]⟩)).alloc (.cells #[.string ⟨#[]⟩, .string p1, .string p2] 28)) w1.heap.size 28 (.slice a n cp) rl) := HO3.out.alloc _
                have HAT : Hid (At encR ((W3.setCell ⟨w2.heap.size, 0, none⟩ (.string ⟨#[]⟩)).alloc (.cells #[.string ⟨#[]⟩, .string p1, .string p2] 28)) (.slice (some ⟨W3.heap.size, 0, none⟩) 1 1) [⟨⟨#[]⟩, p1, p2⟩]) := by have h := (RowsK.Own.lit (E := encR) (b := 0) (e := 28) (W3.setCell ⟨w2.heap.size, 0, none⟩ (.string ⟨#[]⟩)) #[.string ⟨#[]⟩, .string p1, .string p2] [⟨⟨#[]⟩, p1, p2⟩] (Nat.zero_le _) (by simp) rfl).at_; rw [show (W3.setCell ⟨w2.heap.size, 0, none⟩ (.string ⟨#[]⟩)).heap.size = W3.heap.size from by simp] at h; exact h
                rcases hke with rfl | hke
                · go_wp2_with (first
                    | (at_builtin; refine RowsK.wpList_append elemR rfl _ _ rfl w1.heap.size _ rfl HOW.out _ [⟨⟨#[]⟩, p1, p2⟩] rfl HAT.out (by have h1 := HMB.out; have h2 := hH.out.1; simp; omega) (by have h1 := HR.out.2.2.1.size; have h2 := HB2.out.size; simp; omega) ?_; intro v4 w4 hO4 hB4 hg4 hat4; obtain ⟨a4, c4, e4, -⟩ := hO4.slice; rw [show (rl ++ [(⟨⟨#[]⟩, p1, p2⟩ : RT)]).length = n + 1 from (by have := hH.out.1; simp; omega)] at e4; subst e4; have HO4 := Lib.hid hO4; have HB4 := Lib.hid hB4; clear hO4 hB4 hg4 hat4)
                    | (go_at_call 20; (with_reducible refine (HRQ.out _ _ HO4.out.at_).mono ?_); rintro e w5 ⟨rfl, hB5⟩; have HB5 := Lib.hid hB5; clear hB5)
                    | fail)
                  go_roundw
                  case rel =>
                    refine ⟨n + 1, n + 1, rl ++ [⟨⟨#[]⟩, p1, p2⟩], a4, c4, by simp, by omega, rfl, by omega, Lib.hid ⟨by have := hH.out.1; simp; omega, HO4.out.of_block fun q hq => HB5.out.block q (HO4.out.lt q hq).2, ?_, HSZR.out, .inl ⟨by omega, rfl, ?_⟩⟩⟩
                    · exact ((HR.out.2.2.1.trans (HB2.out.mono HR.out.2.2.1.size)).trans (HB3.out.mono (by have h1 := HR.out.2.2.1.size; have h2 := HB2.out.size; have h9 := HZW.out; omega))).trans ((((Below.refl w1.heap.size (W3.setCell ⟨w2.heap.size, 0, none⟩ (.string ⟨#[]⟩))).alloc (by have h1 := HR.out.2.2.1.size; have h2 := HB2.out.size; have h9 := HZW.out; omega) (.cells #[.string ⟨#[]⟩, .string p1, .string p2] 28)).trans HB4.out).trans (HB5.out.mono (by have h1 := HR.out.2.2.1.size; have h2 := HB2.out.size; have h3 := HB4.out.size; have h4 : ((W3.setCell ⟨w2.heap.size, 0, none⟩ (.string ⟨#[]⟩)).alloc (.cells #[.string ⟨#[]⟩, .string p1, .string p2] 28)).heap.size = (W3.setCell ⟨w2.heap.size, 0, none⟩ (.string ⟨#[]⟩)).heap.size + 1 := World.size_alloc ..; have h9 := HZW.out; omega)))
                    · rw [HTA.out]; exact HSM.out
                  case measure => simp [intOf]; omega
                · have hke2 : ke ≠ 0 := by simpa using hke
                  go_wp2_with (first
                    | (at_builtin; refine RowsK.wpList_append elemR rfl _ _ rfl w1.heap.size _ rfl HOW.out _ [⟨⟨#[]⟩, p1, p2⟩] rfl HAT.out (by have h1 := HMB.out; have h2 := hH.out.1; simp; omega) (by have h1 := HR.out.2.2.1.size; have h2 := HB2.out.size; simp; omega) ?_; intro v4 w4 hO4 hB4 hg4 hat4; obtain ⟨a4, c4, e4, -⟩ := hO4.slice; rw [show (rl ++ [(⟨⟨#[]⟩, p1, p2⟩ : RT)]).length = n + 1 from (by have := hH.out.1; simp; omega)] at e4; subst e4; have HO4 := Lib.hid hO4; have HB4 := Lib.hid hB4; clear hO4 hB4 hg4 hat4)
                    | (go_at_call 20; (with_reducible refine (HRQ.out _ _ HO4.out.at_).mono ?_); rintro e w5 ⟨rfl, hB5⟩; have HB5 := Lib.hid hB5; clear hB5)
                    | fail)
                  refine bodyPost_ret (results_tmp3 rfl _ _ _) rfl ⟨_, [], _, _, rfl, ?_, (RowsK.Own.nil encR _ 0 28).at_, HB1.out.trans ((((HR.out.2.2.1.trans (HB2.out.mono HR.out.2.2.1.size)).trans (HB3.out.mono (by have h1 := HR.out.2.2.1.size; have h2 := HB2.out.size; have h9 := HZW.out; omega))).trans ((((Below.refl w1.heap.size (W3.setCell ⟨w2.heap.size, 0, none⟩ (.string ⟨#[]⟩))).alloc (by have h1 := HR.out.2.2.1.size; have h2 := HB2.out.size; have h9 := HZW.out; omega) (.cells #[.string ⟨#[]⟩, .string p1, .string p2] 28)).trans HB4.out).trans (HB5.out.mono (by have h1 := HR.out.2.2.1.size; have h2 := HB2.out.size; have h3 := HB4.out.size; have h4 : ((W3.setCell ⟨w2.heap.size, 0, none⟩ (.string ⟨#[]⟩)).alloc (.cells #[.string ⟨#[]⟩, .string p1, .string p2] 28)).heap.size = (W3.setCell ⟨w2.heap.size, 0, none⟩ (.string ⟨#[]⟩)).heap.size + 1 := World.size_alloc ..; have h9 := HZW.out; omega)))).mono HB1.out.size)⟩
                  rw [HFA.out ke rl (by have h := HSM.out; rw [if_neg hke2] at h; exact h) hke2, ← hH.out.1]
              · have hs1 : p0.data.toList ≠ [42] := fun e => hst (by cases p0; simp only at e; exact congrArg ByteArray.mk (Array.toList_inj.1 e))
                have HRT : Hid (routeB p0 p1 p2 = ⟨p0, p1, p2⟩) := by show _ = _; unfold routeB; rw [if_neg hs1]
                have hs2 : (p0.toList == [42]) = false := by rw [beq_eq_false_iff_ne, ByteArray.toList_eq]; exact hs1
                clear hst hs1
                have HRQ : Hid (∀ W v, At encR W v (rl ++ [⟨p0, p1, p2⟩]) → Calls Tryd.prog 20 #[v, .int .i64 (n : Int)] W fun e w' => e = .returned (.int .i64 (routeE (rl ++ [⟨p0, p1, p2⟩]) rl.length ⟨p0, p1, p2⟩)) ∧ Below W.heap.size W w') := fun W v hv => by
                  rw [hH.out.1]
                  exact rroute_q v _ W hv (szr_snoc HR.out.2.2.2.1 (by have h1 := HWL.out p0 (by simp); have h2 := HPS.out; have h3 := HSZ.out; unfold maxLen; simp only; omega) (by have h1 := HWL.out p1 (by simp); have h2 := HPS.out; have h3 := HSZ.out; unfold maxLen; simp only; omega) (by have h1 := HWL.out p2 (by simp); have h2 := HPS.out; have h3 := HSZ.out; unfold maxLen; simp only; omega)) rl.length (by simp) ⟨p0, p1, p2⟩ (by simp)
                rw [HRT.out] at HSM
                generalize routeE (rl ++ [⟨p0, p1, p2⟩]) rl.length ⟨p0, p1, p2⟩ = ke at HRQ HSM
                have HSZR : Hid (SzR (rl ++ [⟨p0, p1, p2⟩])) := szr_snoc HR.out.2.2.2.1 (by have h1 := HWL.out p0 (by simp); have h2 := HPS.out; have h3 := HSZ.out; unfold maxLen; simp only; omega) (by have h1 := HWL.out p1 (by simp); have h2 := HPS.out; have h3 := HSZ.out; unfold maxLen; simp only; omega) (by have h1 := HWL.out p2 (by simp); have h2 := HPS.out; have h3 := HSZ.out; unfold maxLen; simp only; omega)
                have hke : ke = 0 ∨ (ke != 0) = true := by by_cases h : ke = 0; exact .inl h; exact .inr (bne_iff_ne.2 h)
                go_wp2_with (first
                  | (go_at_call 19; (with_reducible refine (HCP.out _).mono ?_); rintro e w2 ⟨v2, rfl, hO2, hB2⟩; obtain ⟨b2, c2, rfl, hc2, hc3, hb2, hb3, hel2⟩ := hO2.slice1 3 rfl (by omega); have g0 := hel2 0 (by simp) 0 (by decide); have g1 := hel2 1 (by simp) 0 (by decide); have g2 := hel2 2 (by simp) 0 (by decide); change w2.cell? ⟨b2, 0, none⟩ = some (Value.string p0) at g0; change w2.cell? ⟨b2, 1, none⟩ = some (Value.string p1) at g1; change w2.cell? ⟨b2, 2, none⟩ = some (Value.string p2) at g2; have HB2 := Lib.hid hB2; clear hO2 hB2 hel2)
                  | fail)
                have e0 := (World.cell?_of_block (w := w2) (w' := w2.alloc (.cells #[.string ⟨#[]⟩, .string ⟨#[]⟩, .string ⟨#[]⟩] 28)) (a := ⟨b2, 0, none⟩) (Below.heap_alloc _ _ _ hb3)).trans g0
                have e1 := (World.cell?_of_block (w := w2) (w' := w2.alloc (.cells #[.string ⟨#[]⟩, .string ⟨#[]⟩, .string ⟨#[]⟩] 28)) (a := ⟨b2, 1, none⟩) (Below.heap_alloc _ _ _ hb3)).trans g1
                have e2 := (World.cell?_of_block (w := w2) (w' := w2.alloc (.cells #[.string ⟨#[]⟩, .string ⟨#[]⟩, .string ⟨#[]⟩] 28)) (a := ⟨b2, 2, none⟩) (Below.heap_alloc _ _ _ hb3)).trans g2
                go_region_held3 (fun w' => w'.cell? ⟨b2, 0, none⟩ = some (.string p0) ∧ w'.cell? ⟨b2, 1, none⟩ = some (.string p1) ∧ w'.cell? ⟨b2, 2, none⟩ = some (.string p2)) (first | exact ⟨g0, g1, g2⟩ | exact ⟨e0, e1, e2⟩ | go_keep) (fail)
                clear e0 e1 e2 g0 g1 g2
                have hx : ∀ W3, (w2.alloc (.cells #[.string p0, .string p1, .string p2] 28)).drew = W3 → Below w2.heap.size w2 W3 ∧ w2.heap.size < W3.heap.size ∧ W3.cell? ⟨w2.heap.size, 0, none⟩ = some (.string p0) ∧ W3.cell? ⟨w2.heap.size, 1, none⟩ = some (.string p1) ∧ W3.cell? ⟨w2.heap.size, 2, none⟩ = some (.string p2) ∧ RowsK.Own encR W3 w1.heap.size 28 (.slice a n cp) rl := by
                  rintro W3 rfl
                  exact ⟨((Below.refl _ _).alloc (Nat.le_refl _) _).drew, by simp, by simp, by simp, by simp, ((HR.out.2.1.of_block fun q hq => HB2.out.block q (HR.out.2.1.lt q hq).2).alloc _).drew⟩
                obtain ⟨W3, hW3⟩ : ∃ W3, (w2.alloc (.cells #[.string p0, .string p1, .string p2] 28)).drew = W3 := ⟨_, rfl⟩
                obtain ⟨hB3, hz3, r0, r1, r2, hO3⟩ := hx W3 hW3
                rw [hW3]
                clear hW3 hx
                have HO3 := Lib.hid hO3
                have HB3 := Lib.hid hB3
                clear hO3 hB3
                have HOW : Hid (RowsK.Own encR (W3.alloc (.cells #[.string p0, .string p1, .string p2] 28)) w1.heap.size 28 (.slice a n cp) rl) := HO3.out.alloc _
                have HAT : Hid (At encR (W3.alloc (.cells #[.string p0, .string p1, .string p2] 28)) (.slice (some ⟨W3.heap.size, 0, none⟩) 1 1) [⟨p0, p1, p2⟩]) := (RowsK.Own.lit (E := encR) (b := 0) (e := 28) W3 #[.string p0, .string p1, .string p2] [⟨p0, p1, p2⟩] (Nat.zero_le _) (by simp) rfl).at_
                rcases hke with rfl | hke
                · go_wp2_with (first
                    | (at_builtin; refine RowsK.wpList_append elemR rfl _ _ rfl w1.heap.size _ rfl HOW.out _ [⟨p0, p1, p2⟩] rfl HAT.out (by have h1 := HMB.out; have h2 := hH.out.1; simp; omega) (by have h1 := HR.out.2.2.1.size; have h2 := HB2.out.size; simp; omega) ?_; intro v4 w4 hO4 hB4 hg4 hat4; obtain ⟨a4, c4, e4, -⟩ := hO4.slice; rw [show (rl ++ [(⟨p0, p1, p2⟩ : RT)]).length = n + 1 from (by have := hH.out.1; simp; omega)] at e4; subst e4; have HO4 := Lib.hid hO4; have HB4 := Lib.hid hB4; clear hO4 hB4 hg4 hat4)
                    | (go_at_call 20; (with_reducible refine (HRQ.out _ _ HO4.out.at_).mono ?_); rintro e w5 ⟨rfl, hB5⟩; have HB5 := Lib.hid hB5; clear hB5)
                    | fail)
                  go_roundw
                  case rel =>
                    refine ⟨n + 1, n + 1, rl ++ [⟨p0, p1, p2⟩], a4, c4, by simp, by omega, rfl, by omega, Lib.hid ⟨by have := hH.out.1; simp; omega, HO4.out.of_block fun q hq => HB5.out.block q (HO4.out.lt q hq).2, ?_, HSZR.out, .inl ⟨by omega, rfl, ?_⟩⟩⟩
                    · exact ((HR.out.2.2.1.trans (HB2.out.mono HR.out.2.2.1.size)).trans (HB3.out.mono (by have h1 := HR.out.2.2.1.size; have h2 := HB2.out.size; omega))).trans ((((Below.refl w1.heap.size W3).alloc (by have h1 := HR.out.2.2.1.size; have h2 := HB2.out.size; omega) (.cells #[.string p0, .string p1, .string p2] 28)).trans HB4.out).trans (HB5.out.mono (by have h1 := HR.out.2.2.1.size; have h2 := HB2.out.size; have h3 := HB4.out.size; have h4 : (W3.alloc (.cells #[.string p0, .string p1, .string p2] 28)).heap.size = W3.heap.size + 1 := World.size_alloc ..; omega)))
                    · rw [HTA.out]; exact HSM.out
                  case measure => simp [intOf]; omega
                · have hke2 : ke ≠ 0 := by simpa using hke
                  go_wp2_with (first
                    | (at_builtin; refine RowsK.wpList_append elemR rfl _ _ rfl w1.heap.size _ rfl HOW.out _ [⟨p0, p1, p2⟩] rfl HAT.out (by have h1 := HMB.out; have h2 := hH.out.1; simp; omega) (by have h1 := HR.out.2.2.1.size; have h2 := HB2.out.size; simp; omega) ?_; intro v4 w4 hO4 hB4 hg4 hat4; obtain ⟨a4, c4, e4, -⟩ := hO4.slice; rw [show (rl ++ [(⟨p0, p1, p2⟩ : RT)]).length = n + 1 from (by have := hH.out.1; simp; omega)] at e4; subst e4; have HO4 := Lib.hid hO4; have HB4 := Lib.hid hB4; clear hO4 hB4 hg4 hat4)
                    | (go_at_call 20; (with_reducible refine (HRQ.out _ _ HO4.out.at_).mono ?_); rintro e w5 ⟨rfl, hB5⟩; have HB5 := Lib.hid hB5; clear hB5)
                    | fail)
                  refine bodyPost_ret (results_tmp3 rfl _ _ _) rfl ⟨_, [], _, _, rfl, ?_, (RowsK.Own.nil encR _ 0 28).at_, HB1.out.trans ((((HR.out.2.2.1.trans (HB2.out.mono HR.out.2.2.1.size)).trans (HB3.out.mono (by have h1 := HR.out.2.2.1.size; have h2 := HB2.out.size; omega))).trans ((((Below.refl w1.heap.size W3).alloc (by have h1 := HR.out.2.2.1.size; have h2 := HB2.out.size; omega) (.cells #[.string p0, .string p1, .string p2] 28)).trans HB4.out).trans (HB5.out.mono (by have h1 := HR.out.2.2.1.size; have h2 := HB2.out.size; have h3 := HB4.out.size; have h4 : (W3.alloc (.cells #[.string p0, .string p1, .string p2] 28)).heap.size = W3.heap.size + 1 := World.size_alloc ..; omega)))).mono HB1.out.size)⟩
                  rw [HFA.out ke rl (by have h := HSM.out; rw [if_neg hke2] at h; exact h) hke2, ← hH.out.1]
        · have hw4 : ((ws.length : Int) != 3) = true := by rw [bne_iff_ne]; omega
          have hw5 : ((ws.length : Int) == 3) = false := by rw [beq_eq_false_iff_ne]; omega
          have HST := Lib.hid (step_short (l := rl) (w := ws) (ended := true) (.inr hw3))
          clear hw3
          go_wp2_with (first
            | (go_at_call 19; (with_reducible refine (HCP.out _).mono ?_); rintro e w2 ⟨v2, rfl, hO2, hB2⟩; obtain ⟨b2, c2, rfl, -⟩ := hO2.slice; have HB2 := Lib.hid hB2; clear hO2 hB2)
            | fail)
          refine bodyPost_ret (results_tmp3 rfl _ _ _) rfl ⟨_, [], _, _, rfl, ?_, (RowsK.Own.nil encR _ 0 28).at_, HB1.out.trans ((HR.out.2.2.1.mono HB1.out.size).trans (HB2.out.mono (Nat.le_trans HB1.out.size HR.out.2.2.1.size)))⟩
          rw [HFA.out 2 rl (HST.out) (by decide), ← hH.out.1, hH.out.2.1]
    · obtain rfl : k = M + 1 := by omega
      go_wp2_with fail
      refine bodyPost_ret (results_tmp3 rfl _ _ _) rfl ⟨_, rl, _, _, rfl, ?_, HR.out.2.1.at_, HB1.out.trans (HR.out.2.2.1.mono HB1.out.size)⟩
      obtain ⟨-, -, -, -, h | h⟩ := HR.out
      · omega
      · exact h.2.symm
end Go.Proofs.YteadmakhcpjpnaaDoor.RouteC
