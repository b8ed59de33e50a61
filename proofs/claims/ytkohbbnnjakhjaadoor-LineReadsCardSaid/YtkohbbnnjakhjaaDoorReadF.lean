/-
  Package line's reader: head.
  Conditions: where the bytes lie.
-/
import Derived.Test.YtkohbbnnjakhjaaDoorReadH
import Derived.Test.YtkohbbnnjakhjaaDoorFieldRows
namespace Go.Proofs.YtkohbbnnjakhjaaDoor.ReadC
open Go.RowKit BA ChunkD ModL LineC RowsK FieldRows LineM
set_option linter.unusedVariables false
set_option linter.unusedSimpArgs false

/-- What head gives, where nothing is wrong. -/
def HD (B : Nat) (w' : World) (D : ReadS.Hd) (lv : Value) (n : Int) (c : Bool) : Prop := -1 ≤ n ∧ n ≤ 100000 ∧ (D.σ.2 = 0 → Own encF w' B 78 lv D.l ∧ n = D.n ∧ c = D.pieces)
theorem field_lit (w : World) (s t : ByteArray) : At encF (w.alloc (.cells #[.string s, .string t] 78)) (.slice (some ⟨w.heap.size, 0, none⟩) 1 1) [(s, t)] := (Own.lit (E := encF) (e := 78) (b := 0) w #[.string s, .string t] [(s, t)] (Nat.zero_le _) (by simp) rfl).at_
theorem own_form {w : World} {b : Nat} {v : Value} {l : List Fld} (h : Own encF w b 78 v l) : ∃ a c, v = .slice a l.length c := by
  obtain ⟨a, cap, rfl, _⟩ := h.slice
  exact ⟨a, cap, rfl⟩
theorem own_mod {w w' : World} {b X : Nat} {v : Value} {l : List Fld} (h : Own encF w b 78 v l) (hM : Mod (fun k => k = X) w w') (hX : v.ownBlock ≠ some X) : Own encF w' b 78 v l :=
  h.of_block fun k hk => hM.block k (h.lt k hk).2 (fun e => hX (by rw [hk, e]))
theorem mtS_zero {b s : List Int} {σ : Nat × Nat} (h : (ReadS.mtS b s σ).2 = 0) : σ.2 = 0 := by
  unfold ReadS.mtS at h
  split at h
  · assumption
  · exact h
set_option maxRecDepth 100000 in
set_option maxHeartbeats 16000000 in
theorem head_false {w0 w : World} {X : Nat} {v : Value} {b : List Int} {σ : Nat × Nat} (h : RS errN w0 w X v b σ) (least : Nat) (hleast : least ≤ 1) :
    Calls Tryd.prog 25 #[.pointer (some ⟨X, 0, none⟩), .int .i64 least, .bool false] w fun e w' => (∃ (a : Option Addr) (n c : Nat) (m : Int) (k : Bool), e = .returned (.tuple #[.slice a n c, .int .i64 m, .bool k]) ∧ HD w.heap.size w' (ReadS.hdS b least false 42 [] σ) (.slice a n c) m k) ∧ RS errN w0 w' X v b (ReadS.hdS b least false 42 [] σ).σ ∧ Mod (fun k => k = X) w w' := by
  obtain ⟨D, hD⟩ : ∃ D, ReadS.hdS b least false 42 [] σ = D := ⟨_, rfl⟩
  rw [hD]
  have HD0 := Lib.hid hD
  have H := Lib.hid h
  have hXw := h.rd.lt
  obtain ⟨a0, cap, rfl, hc1, hc2, hnil, _⟩ := h.by0.open
  have hlen := h.len
  obtain ⟨L, hL⟩ : ∃ L, b.length = L := ⟨_, rfl⟩
  rw [hL] at hlen hc1
  have HL := Lib.hid hL
  clear h hD hnil hL
  have HX := Lib.hid hXw
  go_enter Tryd.func25, Tryd.ntmps25
  go_wp2
  go_loopw [6, 7, 8] (fun lv nv kv wr => ∃ (a : Option Addr) (c : Nat) (l : List Fld) (p e f : Nat), lv = .slice a l.length c ∧ nv = .int .i64 (-1) ∧ kv = .bool false ∧ l.length ≤ 40 ∧ Hid (Own encF wr w.heap.size 78 (.slice a l.length c) l ∧ RS errN w0 wr X (.slice a0 b.length cap) b (p, e) ∧ Mod (fun k => k = X) w wr ∧ ReadS.hdS b least false f l (p, e) = D ∧ (e = 0 → f + l.length = 42) ∧ (e ≠ 0 → 1 ≤ f))) (fun lv _ _ wr => (41 - (match lv with | .slice _ n _ => n | _ => 0)) * 2 + (match wr.cell? ⟨X, 2, none⟩ with | some (.iface _ _) => 0 | _ => 1))
  case atStart =>
    obtain ⟨p, e⟩ := σ
    exact ⟨none, 0, [], p, e, 42, rfl, rfl, rfl, by simp, Own.nil _ _ _ _, H.out, Mod.refl _ _, HD0.out, fun _ => rfl, fun _ => by decide⟩
  case round =>
    obtain ⟨a, c, l, p, e, f, rfl, rfl, rfl, hl40, HR⟩ := hrel
    obtain ⟨wo, rfl⟩ : ∃ wo : World, wo = wr := ⟨_, rfl⟩
    have HOwn := Lib.hid HR.out.1
    have HRS := Lib.hid HR.out.2.1
    have HMD := Lib.hid HR.out.2.2.1
    have HDD := Lib.hid HR.out.2.2.2.1
    have HF := Lib.hid HR.out.2.2.2.2
    clear HR
    have HSZ := Lib.hid HMD.out.size
    have HNX : Hid ((Value.slice a l.length c).ownBlock ≠ some X) := fun hx => by
      have := (HOwn.out.lt X hx).1
      have := HX.out
      omega
    by_cases h0 : e = 0
    · subst h0
      obtain ⟨g, hg⟩ : ∃ g, f = g + 1 := ⟨f - 1, by have := HF.out.1 rfl; omega⟩
      have c0 := HRS.out.cells.1
      have c1 := HRS.out.cells.2.1
      have c2 := HRS.out.cells.2.2.1
      rw [HL.out] at c0
      have hok : p ≤ L := by rw [← HL.out]; exact HRS.out.ok rfl
      have HEL := Lib.hid HRS.out.elems
      have f2 := HRS.out.cells.2.2.2.2.2
      by_cases h13 : p < L ∧ b.getD p 0 = 13
      · obtain ⟨hlt, hb13⟩ := h13
        obtain ⟨bb, off, rfl, hbb, hcell⟩ := HEL.out p (by rw [HL.out]; exact hlt)
        rw [hb13] at hcell
        have hDe : D = ⟨l, -1, false, ReadS.mtS b [13, 10] (p, 0)⟩ := by rw [← HDD.out, hg]; exact ReadS.hdS_end rfl ⟨by rw [HL.out]; exact hlt, hb13⟩
        have HDE := Lib.hid hDe
        have d1 : decide ((p : Int) < (L : Int)) = true := decide_eq_true (by omega)
        have d2 : decide (p < L) = true := decide_eq_true hlt
        have i0 : (0 : Int) ≤ (p : Int) := by omega
        have i1 : (p : Int) < (L : Int) := by omega
        have HMC := Lib.hid (fun n => rmt_any (HRS.out.below (below_drewN (Below.refl _ _) n)) ⟨#[13, 10]⟩ (by decide))
        clear hb13 hDe hg hlt
        go_wp2
        go_quiet (fail)
        go_wp2_with (go_at_call 22; (with_reducible refine (HMC.out _).mono ?_); rintro e w1 ⟨rfl, hR1, hM1⟩; have HR1 := Lib.hid hR1; have HM1 := Lib.hid ((mod_drewN (Mod.refl _ _) _).trans hM1); clear hR1 hM1)
        go_ret3
        rw [HDE.out]
        exact ⟨⟨_, _, _, _, _, rfl, Int.le_refl _, by show (-1 : Int) ≤ 100000; decide, fun _ => ⟨own_mod HOwn.out HM1.out HNX.out, rfl, rfl⟩⟩, HR1.out, HMD.out.trans HM1.out⟩
      · obtain ⟨u, hu⟩ : ∃ u, ReadS.utS b 58 smallB (p, 0) = u := ⟨_, rfl⟩
        have HUC := Lib.hid (fun n => until_letter (HRS.out.below (below_drewN (Below.refl _ _) n)))
        have hgo := ReadS.hdS_go (b := b) (least := least) (coded := false) (f := g) (l := l) (σ := (p, 0)) rfl (by rw [HL.out]; exact h13)
        rw [← hg, HDD.out] at hgo
        have hnm : ReadS.nmS b (p, 0) = (u.1, ReadS.needS (!u.1.toList.isEmpty) u.2) := by rw [← hu]; rfl
        rw [hnm] at hgo
        rw [hu] at HUC
        obtain ⟨s, τ0⟩ := u
        have HNE := Lib.hid (fun W (hW : RS errN w0 W X (.slice a0 b.length cap) b τ0) => need_any hW (!s.toList.isEmpty))
        obtain ⟨τ, hτ⟩ : ∃ τ, ReadS.needS (!s.toList.isEmpty) τ0 = τ := ⟨_, rfl⟩
        simp only [hτ] at hgo
        rw [hτ] at HNE
        have HTAU := Lib.hid hτ
        have HG1 := Lib.hid hg
        have HG1pos : Hid (1 ≤ g) := by show 1 ≤ g; have := HF.out.1 rfl; omega
        obtain ⟨p2, e2⟩ := τ
        by_cases he2 : e2 = 0
        · subst he2
          have hlt : p < L := by
            rcases Nat.lt_or_ge p L with h | h
            · exact h
            · exfalso
              have e2 : ReadS.utS b 58 smallB (p, 0) = (⟨#[]⟩, (0, 8)) := by
                unfold ReadS.utS
                rw [if_pos rfl]
                simp only
                rw [ReadS.ut_short (by rw [HL.out]; exact h), if_neg (by decide)]
              rw [hu] at e2
              injection e2 with e3 e4
              rw [e4] at hτ
              unfold ReadS.needS at hτ
              rw [if_neg (by simp)] at hτ
              injection hτ with _ h8
              cases h8
          obtain ⟨bb, off, rfl, hbb, hcell⟩ := HEL.out p (by rw [HL.out]; exact hlt)
          obtain ⟨z, hzk⟩ : ∃ z, b.getD p 0 = z := ⟨_, rfl⟩
          rw [hzk] at hcell
          have t1 : (z == 13) = false := bne_of (fun h => h13 ⟨hlt, by rw [hzk]; exact h⟩)
          have d1 : decide ((p : Int) < (L : Int)) = true := decide_eq_true (by omega)
          have d2 : decide (p < L) = true := decide_eq_true hlt
          have i0 : (0 : Int) ≤ (p : Int) := by omega
          have i1 : (p : Int) < (L : Int) := by omega
          rw [if_neg (by simp)] at hgo
          clear hzk h13 hlt hu hnm hτ hg
          rcases t2 : (s.toList == [108, 101, 110, 103, 116, 104]) with _ | _
          · rw [if_neg (by rw [t2]; simp)] at hgo
            rw [if_neg (by simp)] at hgo
            rcases t3 : (s.toList == [99, 111, 100, 105, 110, 103]) with _ | _
            · skip
              rcases t4 : ownB s with _ | _
              · rw [if_neg (by rw [t4]; simp)] at hgo
                by_cases h40 : l.length = 40
                · have hDe : D = ⟨l, -1, false, (p2, 4)⟩ := by rw [hgo, if_pos h40]
                  have HGO := Lib.hid hDe
                  have t5 : ((l.length : Int) == 40) = true := by rw [h40]; rfl
                  have H40 := Lib.hid h40
                  clear hgo hDe h40
                  go_wp2
                  go_quiet (fail)
                  go_wp2_with (first
                    | (go_at_call 19; (with_reducible refine (HUC.out _).mono ?_); rintro e w1 ⟨rfl, hR1, hM1⟩; have HR1 := Lib.hid hR1; have HM1 := Lib.hid ((mod_drewN (Mod.refl _ _) _).trans hM1); clear hR1 hM1)
                    | (go_at_call 21; (with_reducible refine (HNE.out _ HR1.out).mono ?_); rintro e w2 ⟨rfl, hR2, hM2⟩; have HR2 := Lib.hid hR2; have HM2 := Lib.hid (HM1.out.trans hM2); have c2n := hR2.cells.2.2.1; have f2n := hR2.cells.2.2.2.2.2; clear hR2 hM2)
                    | (go_at_call 46; (with_reducible refine (own_any _ _).mono ?_); rintro e w3 ⟨rfl, rfl⟩))
                  have c2o := c2
                  have c2m : (w2.setCell ⟨X, 2, none⟩ (.iface 63 (.int .i64 4))).cell? ⟨X, 2, none⟩ = some (.iface 63 (.int .i64 4)) := World.cell?_setCell_same _ _ _ c2n
                  have hRS := HR2.out.step (modX w2 X 2 (errN 4)) (HR2.out.rd.fault (e := 4) (by decide) p2) (by intro h; cases h)
                  have hMM := HM2.out.trans (modX w2 X 2 (errN 4))
                  rw [errN4] at hRS hMM
                  have HRS5 := Lib.hid hRS
                  have HMM5 := Lib.hid hMM
                  clear hRS hMM
                  go_roundw
                  case rel => exact ⟨_, c, l, p2, 4, g, rfl, rfl, rfl, hl40, own_mod HOwn.out HMM5.out HNX.out, HRS5.out, HMD.out.trans HMM5.out, by rw [HGO.out]; obtain ⟨g', hg'⟩ : ∃ g', g = g' + 1 := ⟨g - 1, by have := HG1pos.out; omega⟩; rw [hg']; exact ReadS.hdS_err (by simp), fun h => absurd h (by decide), fun _ => HG1pos.out⟩
                  case measure => simp only [c2o, c2m]; omega
                · rw [if_neg h40] at hgo
                  have HGO := Lib.hid hgo
                  have t5 : ((l.length : Int) == 40) = false := bne_of (by omega)
                  have H40 := Lib.hid h40
                  have h40' : l.length < 40 := by omega
                  obtain ⟨vs, hvs⟩ : ∃ vs, ReadS.valS b (p2, 0) = vs := ⟨_, rfl⟩
                  have HVC := Lib.hid (fun W (hW : RS errN w0 W X (.slice (some ⟨bb, off, none⟩) b.length cap) b (p2, 0)) => value_any hW)
                  rw [hvs] at HGO HVC
                  obtain ⟨t, τ3⟩ := vs
                  clear hgo h40 hvs
                  go_wp2
                  go_quiet (fail)
                  go_wp2_with (first
                    | (go_at_call 19; (with_reducible refine (HUC.out _).mono ?_); rintro e w1 ⟨rfl, hR1, hM1⟩; have HR1 := Lib.hid hR1; have HM1 := Lib.hid ((mod_drewN (Mod.refl _ _) _).trans hM1); clear hR1 hM1)
                    | (go_at_call 21; (with_reducible refine (HNE.out _ HR1.out).mono ?_); rintro e w2 ⟨rfl, hR2, hM2⟩; have HR2 := Lib.hid hR2; have HM2 := Lib.hid (HM1.out.trans hM2); have c2n := hR2.cells.2.2.1; clear hR2 hM2)
                    | (go_at_call 46; (with_reducible refine (own_any _ _).mono ?_); rintro e w3 ⟨rfl, rfl⟩)
                    | (go_at_call 24; (with_reducible refine (HVC.out _ HR2.out).mono ?_); rintro e w3 ⟨rfl, hR3, hM3⟩; have HR3 := Lib.hid hR3; have HM3 := Lib.hid (HM2.out.trans hM3); have HO3 := Lib.hid (own_mod HOwn.out HM3.out HNX.out); have HZ3 := Lib.hid (Nat.le_trans HSZ.out HM3.out.size); clear hR3 hM3)
                    | (at_builtin; refine wpList_append elemF rfl _ _ rfl w.heap.size _ rfl (HO3.out.alloc _) _ [(s, t)] rfl (field_lit w3 s t) (by simp only [List.length_cons, List.length_nil]; omega) (by have := HZ3.out; simp; omega) ?_; intro v5 w5 hown5 hB5 hg5 hat5; obtain ⟨a5, c5, rfl⟩ := own_form hown5; have HO5 := Lib.hid hown5; have HG5 := Lib.hid hg5; clear hown5 hB5 hg5 hat5))
                  have HM5 := Lib.hid (((HMD.out.trans HM3.out).alloc _).grown HG5.out (fun k hk hlt => absurd (HO3.out.lt k hk).1 (by omega)))
                  have HR5 := Lib.hid ((HR3.out.below ((Below.refl _ _).alloc (Nat.le_refl _) (.cells #[.string s, .string t] 78))).other (S := fun k => (Value.slice a l.length c).ownBlock = some k) ((Mod.refl _ _).grown HG5.out (fun k hk _ => hk)) HNX.out (fun k hk => Nat.le_trans H.out.bel.size (HO3.out.lt k hk).1))
                  have c2o := c2
                  have hx : (match w5.cell? ⟨X, 2, none⟩ with | some (.iface _ _) => 0 | _ => 1) ≤ 1 := by split <;> omega
                  have HX5 := Lib.hid hx
                  clear hx
                  go_roundw
                  case rel => exact ⟨a5, c5, l ++ [(s, t)], τ3.1, τ3.2, g, by first | rfl | simp, rfl, rfl, by simp; omega, HO5.out, HR5.out, HM5.out, HGO.out.symm, fun _ => by have h1 := HF.out.1 (by first | trivial | rfl); have h2 := HG1.out; rw [List.length_append, List.length_singleton]; omega, fun _ => HG1pos.out⟩
                  case measure => have hx := HX5.out; simp only [c2o, List.length_append, List.length_singleton]; omega
              · rw [if_pos t4] at hgo
                have HGO := Lib.hid hgo
                clear hgo
                go_wp2
                go_quiet (fail)
                go_wp2_with (first
                  | (go_at_call 19; (with_reducible refine (HUC.out _).mono ?_); rintro e w1 ⟨rfl, hR1, hM1⟩; have HR1 := Lib.hid hR1; have HM1 := Lib.hid ((mod_drewN (Mod.refl _ _) _).trans hM1); clear hR1 hM1)
                  | (go_at_call 21; (with_reducible refine (HNE.out _ HR1.out).mono ?_); rintro e w2 ⟨rfl, hR2, hM2⟩; have HR2 := Lib.hid hR2; have HM2 := Lib.hid (HM1.out.trans hM2); have c2n := hR2.cells.2.2.1; have f2n := hR2.cells.2.2.2.2.2; clear hR2 hM2)
                  | (go_at_call 46; (with_reducible refine (own_any _ _).mono ?_); rintro e w3 ⟨rfl, rfl⟩))
                have c2o := c2
                have c2m : (w2.setCell ⟨X, 2, none⟩ (.iface 63 (.int .i64 2))).cell? ⟨X, 2, none⟩ = some (.iface 63 (.int .i64 2)) := World.cell?_setCell_same _ _ _ c2n
                have hRS := HR2.out.step (modX w2 X 2 (errN 2)) (HR2.out.rd.fault (e := 2) (by decide) p2) (by intro h; cases h)
                have hMM := HM2.out.trans (modX w2 X 2 (errN 2))
                rw [errN2] at hRS hMM
                have HRS5 := Lib.hid hRS
                have HMM5 := Lib.hid hMM
                clear hRS hMM
                go_roundw
                case rel => exact ⟨_, c, l, p2, 2, g, rfl, rfl, rfl, hl40, own_mod HOwn.out HMM5.out HNX.out, HRS5.out, HMD.out.trans HMM5.out, by rw [HGO.out]; obtain ⟨g', hg'⟩ : ∃ g', g = g' + 1 := ⟨g - 1, by have := HG1pos.out; omega⟩; rw [hg']; exact ReadS.hdS_err (by simp), fun h => absurd h (by decide), fun _ => HG1pos.out⟩
                case measure => simp only [c2o, c2m]; omega
            · skip
              rcases t4 : ownB s with _ | _
              · rw [if_neg (by rw [t4]; simp)] at hgo
                by_cases h40 : l.length = 40
                · have hDe : D = ⟨l, -1, false, (p2, 4)⟩ := by rw [hgo, if_pos h40]
                  have HGO := Lib.hid hDe
                  have t5 : ((l.length : Int) == 40) = true := by rw [h40]; rfl
                  have H40 := Lib.hid h40
                  clear hgo hDe h40
                  go_wp2
                  go_quiet (fail)
                  go_wp2_with (first
                    | (go_at_call 19; (with_reducible refine (HUC.out _).mono ?_); rintro e w1 ⟨rfl, hR1, hM1⟩; have HR1 := Lib.hid hR1; have HM1 := Lib.hid ((mod_drewN (Mod.refl _ _) _).trans hM1); clear hR1 hM1)
                    | (go_at_call 21; (with_reducible refine (HNE.out _ HR1.out).mono ?_); rintro e w2 ⟨rfl, hR2, hM2⟩; have HR2 := Lib.hid hR2; have HM2 := Lib.hid (HM1.out.trans hM2); have c2n := hR2.cells.2.2.1; have f2n := hR2.cells.2.2.2.2.2; clear hR2 hM2)
                    | (go_at_call 46; (with_reducible refine (own_any _ _).mono ?_); rintro e w3 ⟨rfl, rfl⟩))
                  have c2o := c2
                  have c2m : (w2.setCell ⟨X, 2, none⟩ (.iface 63 (.int .i64 4))).cell? ⟨X, 2, none⟩ = some (.iface 63 (.int .i64 4)) := World.cell?_setCell_same _ _ _ c2n
                  have hRS := HR2.out.step (modX w2 X 2 (errN 4)) (HR2.out.rd.fault (e := 4) (by decide) p2) (by intro h; cases h)
                  have hMM := HM2.out.trans (modX w2 X 2 (errN 4))
                  rw [errN4] at hRS hMM
                  have HRS5 := Lib.hid hRS
                  have HMM5 := Lib.hid hMM
                  clear hRS hMM
                  go_roundw
                  case rel => exact ⟨_, c, l, p2, 4, g, rfl, rfl, rfl, hl40, own_mod HOwn.out HMM5.out HNX.out, HRS5.out, HMD.out.trans HMM5.out, by rw [HGO.out]; obtain ⟨g', hg'⟩ : ∃ g', g = g' + 1 := ⟨g - 1, by have := HG1pos.out; omega⟩; rw [hg']; exact ReadS.hdS_err (by simp), fun h => absurd h (by decide), fun _ => HG1pos.out⟩
                  case measure => simp only [c2o, c2m]; omega
                · rw [if_neg h40] at hgo
                  have HGO := Lib.hid hgo
                  have t5 : ((l.length : Int) == 40) = false := bne_of (by omega)
                  have H40 := Lib.hid h40
                  have h40' : l.length < 40 := by omega
                  obtain ⟨vs, hvs⟩ : ∃ vs, ReadS.valS b (p2, 0) = vs := ⟨_, rfl⟩
                  have HVC := Lib.hid (fun W (hW : RS errN w0 W X (.slice (some ⟨bb, off, none⟩) b.length cap) b (p2, 0)) => value_any hW)
                  rw [hvs] at HGO HVC
                  obtain ⟨t, τ3⟩ := vs
                  clear hgo h40 hvs
                  go_wp2
                  go_quiet (fail)
                  go_wp2_with (first
                    | (go_at_call 19; (with_reducible refine (HUC.out _).mono ?_); rintro e w1 ⟨rfl, hR1, hM1⟩; have HR1 := Lib.hid hR1; have HM1 := Lib.hid ((mod_drewN (Mod.refl _ _) _).trans hM1); clear hR1 hM1)
                    | (go_at_call 21; (with_reducible refine (HNE.out _ HR1.out).mono ?_); rintro e w2 ⟨rfl, hR2, hM2⟩; have HR2 := Lib.hid hR2; have HM2 := Lib.hid (HM1.out.trans hM2); have c2n := hR2.cells.2.2.1; clear hR2 hM2)
                    | (go_at_call 46; (with_reducible refine (own_any _ _).mono ?_); rintro e w3 ⟨rfl, rfl⟩)
                    | (go_at_call 24; (with_reducible refine (HVC.out _ HR2.out).mono ?_); rintro e w3 ⟨rfl, hR3, hM3⟩; have HR3 := Lib.hid hR3; have HM3 := Lib.hid (HM2.out.trans hM3); have HO3 := Lib.hid (own_mod HOwn.out HM3.out HNX.out); have HZ3 := Lib.hid (Nat.le_trans HSZ.out HM3.out.size); clear hR3 hM3)
                    | (at_builtin; refine wpList_append elemF rfl _ _ rfl w.heap.size _ rfl (HO3.out.alloc _) _ [(s, t)] rfl (field_lit w3 s t) (by simp only [List.length_cons, List.length_nil]; omega) (by have := HZ3.out; simp; omega) ?_; intro v5 w5 hown5 hB5 hg5 hat5; obtain ⟨a5, c5, rfl⟩ := own_form hown5; have HO5 := Lib.hid hown5; have HG5 := Lib.hid hg5; clear hown5 hB5 hg5 hat5))
                  have HM5 := Lib.hid (((HMD.out.trans HM3.out).alloc _).grown HG5.out (fun k hk hlt => absurd (HO3.out.lt k hk).1 (by omega)))
                  have HR5 := Lib.hid ((HR3.out.below ((Below.refl _ _).alloc (Nat.le_refl _) (.cells #[.string s, .string t] 78))).other (S := fun k => (Value.slice a l.length c).ownBlock = some k) ((Mod.refl _ _).grown HG5.out (fun k hk _ => hk)) HNX.out (fun k hk => Nat.le_trans H.out.bel.size (HO3.out.lt k hk).1))
                  have c2o := c2
                  have hx : (match w5.cell? ⟨X, 2, none⟩ with | some (.iface _ _) => 0 | _ => 1) ≤ 1 := by split <;> omega
                  have HX5 := Lib.hid hx
                  clear hx
                  go_roundw
                  case rel => exact ⟨a5, c5, l ++ [(s, t)], τ3.1, τ3.2, g, by first | rfl | simp, rfl, rfl, by simp; omega, HO5.out, HR5.out, HM5.out, HGO.out.symm, fun _ => by have h1 := HF.out.1 (by first | trivial | rfl); have h2 := HG1.out; rw [List.length_append, List.length_singleton]; omega, fun _ => HG1pos.out⟩
                  case measure => have hx := HX5.out; simp only [c2o, List.length_append, List.length_singleton]; omega
              · rw [if_pos t4] at hgo
                have HGO := Lib.hid hgo
                clear hgo
                go_wp2
                go_quiet (fail)
                go_wp2_with (first
                  | (go_at_call 19; (with_reducible refine (HUC.out _).mono ?_); rintro e w1 ⟨rfl, hR1, hM1⟩; have HR1 := Lib.hid hR1; have HM1 := Lib.hid ((mod_drewN (Mod.refl _ _) _).trans hM1); clear hR1 hM1)
                  | (go_at_call 21; (with_reducible refine (HNE.out _ HR1.out).mono ?_); rintro e w2 ⟨rfl, hR2, hM2⟩; have HR2 := Lib.hid hR2; have HM2 := Lib.hid (HM1.out.trans hM2); have c2n := hR2.cells.2.2.1; have f2n := hR2.cells.2.2.2.2.2; clear hR2 hM2)
                  | (go_at_call 46; (with_reducible refine (own_any _ _).mono ?_); rintro e w3 ⟨rfl, rfl⟩))
                have c2o := c2
                have c2m : (w2.setCell ⟨X, 2, none⟩ (.iface 63 (.int .i64 2))).cell? ⟨X, 2, none⟩ = some (.iface 63 (.int .i64 2)) := World.cell?_setCell_same _ _ _ c2n
                have hRS := HR2.out.step (modX w2 X 2 (errN 2)) (HR2.out.rd.fault (e := 2) (by decide) p2) (by intro h; cases h)
                have hMM := HM2.out.trans (modX w2 X 2 (errN 2))
                rw [errN2] at hRS hMM
                have HRS5 := Lib.hid hRS
                have HMM5 := Lib.hid hMM
                clear hRS hMM
                go_roundw
                case rel => exact ⟨_, c, l, p2, 2, g, rfl, rfl, rfl, hl40, own_mod HOwn.out HMM5.out HNX.out, HRS5.out, HMD.out.trans HMM5.out, by rw [HGO.out]; obtain ⟨g', hg'⟩ : ∃ g', g = g' + 1 := ⟨g - 1, by have := HG1pos.out; omega⟩; rw [hg']; exact ReadS.hdS_err (by simp), fun h => absurd h (by decide), fun _ => HG1pos.out⟩
                case measure => simp only [c2o, c2m]; omega
          · have hDe : D = ⟨l, (ReadS.lenS b least (p2, 0)).1, false, ReadS.mtS b [13, 10] (ReadS.lenS b least (p2, 0)).2⟩ := by rw [hgo, if_pos t2]
            have HGO := Lib.hid hDe
            clear hgo hDe
            go_wp2
            go_quiet (fail)
            go_wp2_with (first
              | (go_at_call 19; (with_reducible refine (HUC.out _).mono ?_); rintro e w1 ⟨rfl, hR1, hM1⟩; have HR1 := Lib.hid hR1; have HM1 := Lib.hid ((mod_drewN (Mod.refl _ _) _).trans hM1); clear hR1 hM1)
              | (go_at_call 21; (with_reducible refine (HNE.out _ HR1.out).mono ?_); rintro e w2 ⟨rfl, hR2, hM2⟩; have HR2 := Lib.hid hR2; have HM2 := Lib.hid (HM1.out.trans hM2); have c2n := hR2.cells.2.2.1; clear hR2 hM2)
              | (go_at_call 45; (with_reducible refine (digits_any HR2.out least hleast).mono ?_); rintro e w3 ⟨⟨m, rfl, hdg⟩, hR3, hM3⟩; have HR3 := Lib.hid hR3; have HM3 := Lib.hid (HM2.out.trans hM3); have HDG := Lib.hid hdg; clear hR3 hM3 hdg)
              | (go_at_call 22; (with_reducible refine (rmt_any HR3.out ⟨#[13, 10]⟩ (by decide)).mono ?_); rintro e w4 ⟨rfl, hR4, hM4⟩; have HR4 := Lib.hid hR4; have HM4 := Lib.hid (HM3.out.trans hM4); clear hR4 hM4))
            go_ret3
            rw [HGO.out]
            exact ⟨⟨_, _, _, _, _, rfl, by have := HDG.out.1.1; omega, HDG.out.1.2, fun h => ⟨own_mod HOwn.out HM4.out HNX.out, HDG.out.2 (mtS_zero h), rfl⟩⟩, HR4.out, HMD.out.trans HM4.out⟩
        · have HE2 := Lib.hid he2
          have hDe : D = ⟨l, -1, false, (p2, e2)⟩ := by rw [hgo, if_pos he2]
          have HGO : Hid (D = ⟨l, -1, false, (p2, e2)⟩) := hDe
          clear hu hgo hnm hτ hDe he2 hg
          by_cases hlt : p < L
          · obtain ⟨bb, off, rfl, hbb, hcell⟩ := HEL.out p (by rw [HL.out]; exact hlt)
            obtain ⟨z, hzk⟩ : ∃ z, b.getD p 0 = z := ⟨_, rfl⟩
            rw [hzk] at hcell
            have t1 : (z == 13) = false := bne_of (fun h => h13 ⟨hlt, by rw [hzk]; exact h⟩)
            have d1 : decide ((p : Int) < (L : Int)) = true := decide_eq_true (by omega)
            have d2 : decide (p < L) = true := decide_eq_true hlt
            have i0 : (0 : Int) ≤ (p : Int) := by omega
            have i1 : (p : Int) < (L : Int) := by omega
            clear hzk h13 hlt
            go_wp2
            go_quiet (fail)
            go_wp2_with (first
              | (go_at_call 19; (with_reducible refine (HUC.out _).mono ?_); rintro e w1 ⟨rfl, hR1, hM1⟩; have HR1 := Lib.hid hR1; have HM1 := Lib.hid ((mod_drewN (Mod.refl _ _) _).trans hM1); clear hR1 hM1)
              | (go_at_call 21; (with_reducible refine (HNE.out _ HR1.out).mono ?_); rintro e w2 ⟨rfl, hR2, hM2⟩; have HR2 := Lib.hid hR2; have HM2 := Lib.hid (HM1.out.trans hM2); have c2n := (hR2.cellsE HE2.out).2.2.1; clear hR2 hM2))
            have c2o := c2
            go_roundw
            case rel => exact ⟨a, c, l, p2, e2, g, rfl, rfl, rfl, hl40, own_mod HOwn.out HM2.out HNX.out, HR2.out, HMD.out.trans HM2.out, by rw [HGO.out]; obtain ⟨g', hg'⟩ : ∃ g', g = g' + 1 := ⟨g - 1, by have := HG1pos.out; omega⟩; rw [hg']; exact ReadS.hdS_err HE2.out, fun h => absurd h HE2.out, fun _ => HG1pos.out⟩
            case measure => simp only [c2o, c2n]; omega
          · have hpL : p = L := by omega
            subst hpL
            have d1 : decide ((p : Int) < (p : Int)) = false := decide_eq_false (by omega)
            have d2 : decide (p < p) = false := decide_eq_false (by omega)
            clear h13 hlt
            go_wp2
            go_quiet (fail)
            go_wp2_with (first
              | (go_at_call 19; (with_reducible refine (HUC.out _).mono ?_); rintro e w1 ⟨rfl, hR1, hM1⟩; have HR1 := Lib.hid hR1; have HM1 := Lib.hid ((mod_drewN (Mod.refl _ _) _).trans hM1); clear hR1 hM1)
              | (go_at_call 21; (with_reducible refine (HNE.out _ HR1.out).mono ?_); rintro e w2 ⟨rfl, hR2, hM2⟩; have HR2 := Lib.hid hR2; have HM2 := Lib.hid (HM1.out.trans hM2); have c2n := (hR2.cellsE HE2.out).2.2.1; clear hR2 hM2))
            have c2o := c2
            go_roundw
            case rel => exact ⟨a, c, l, p2, e2, g, rfl, rfl, rfl, hl40, own_mod HOwn.out HM2.out HNX.out, HR2.out, HMD.out.trans HM2.out, by rw [HGO.out]; obtain ⟨g', hg'⟩ : ∃ g', g = g' + 1 := ⟨g - 1, by have := HG1pos.out; omega⟩; rw [hg']; exact ReadS.hdS_err HE2.out, fun h => absurd h HE2.out, fun _ => HG1pos.out⟩
            case measure => simp only [c2o, c2n]; omega
    · have HE := Lib.hid h0
      have c2 := (HRS.out.cellsE h0).2.2.1
      obtain ⟨g, hg⟩ : ∃ g, f = g + 1 := ⟨f - 1, by have := HF.out.2 h0; omega⟩
      have hDe : D = ⟨l, -1, false, (p, e)⟩ := by rw [← HDD.out, hg]; exact ReadS.hdS_err h0
      have HDE := Lib.hid hDe
      clear h0 hg hDe
      go_wp2
      go_ret3
      rw [HDE.out]
      exact ⟨⟨_, _, _, _, _, rfl, Int.le_refl _, by show (-1 : Int) ≤ 100000; decide, fun h => absurd h HE.out⟩, HRS.out, HMD.out⟩
set_option maxRecDepth 100000 in
set_option maxHeartbeats 16000000 in
theorem head_true {w0 w : World} {X : Nat} {v : Value} {b : List Int} {σ : Nat × Nat} (h : RS errN w0 w X v b σ) (least : Nat) (hleast : least ≤ 1) :
    Calls Tryd.prog 25 #[.pointer (some ⟨X, 0, none⟩), .int .i64 least, .bool true] w fun e w' => (∃ (a : Option Addr) (n c : Nat) (m : Int) (k : Bool), e = .returned (.tuple #[.slice a n c, .int .i64 m, .bool k]) ∧ HD w.heap.size w' (ReadS.hdS b least true 42 [] σ) (.slice a n c) m k) ∧ RS errN w0 w' X v b (ReadS.hdS b least true 42 [] σ).σ ∧ Mod (fun k => k = X) w w' := by
  obtain ⟨D, hD⟩ : ∃ D, ReadS.hdS b least true 42 [] σ = D := ⟨_, rfl⟩
  rw [hD]
  have HD0 := Lib.hid hD
  have H := Lib.hid h
  have hXw := h.rd.lt
  obtain ⟨a0, cap, rfl, hc1, hc2, hnil, _⟩ := h.by0.open
  have hlen := h.len
  obtain ⟨L, hL⟩ : ∃ L, b.length = L := ⟨_, rfl⟩
  rw [hL] at hlen hc1
  have HL := Lib.hid hL
  clear h hD hnil hL
  have HX := Lib.hid hXw
  go_enter Tryd.func25, Tryd.ntmps25
  go_wp2
  go_loopw [6, 7, 8] (fun lv nv kv wr => ∃ (a : Option Addr) (c : Nat) (l : List Fld) (p e f : Nat), lv = .slice a l.length c ∧ nv = .int .i64 (-1) ∧ kv = .bool false ∧ l.length ≤ 40 ∧ Hid (Own encF wr w.heap.size 78 (.slice a l.length c) l ∧ RS errN w0 wr X (.slice a0 b.length cap) b (p, e) ∧ Mod (fun k => k = X) w wr ∧ ReadS.hdS b least true f l (p, e) = D ∧ (e = 0 → f + l.length = 42) ∧ (e ≠ 0 → 1 ≤ f))) (fun lv _ _ wr => (41 - (match lv with | .slice _ n _ => n | _ => 0)) * 2 + (match wr.cell? ⟨X, 2, none⟩ with | some (.iface _ _) => 0 | _ => 1))
  case atStart =>
    obtain ⟨p, e⟩ := σ
    exact ⟨none, 0, [], p, e, 42, rfl, rfl, rfl, by simp, Own.nil _ _ _ _, H.out, Mod.refl _ _, HD0.out, fun _ => rfl, fun _ => by decide⟩
  case round =>
    obtain ⟨a, c, l, p, e, f, rfl, rfl, rfl, hl40, HR⟩ := hrel
    obtain ⟨wo, rfl⟩ : ∃ wo : World, wo = wr := ⟨_, rfl⟩
    have HOwn := Lib.hid HR.out.1
    have HRS := Lib.hid HR.out.2.1
    have HMD := Lib.hid HR.out.2.2.1
    have HDD := Lib.hid HR.out.2.2.2.1
    have HF := Lib.hid HR.out.2.2.2.2
    clear HR
    have HSZ := Lib.hid HMD.out.size
    have HNX : Hid ((Value.slice a l.length c).ownBlock ≠ some X) := fun hx => by
      have := (HOwn.out.lt X hx).1
      have := HX.out
      omega
    by_cases h0 : e = 0
    · subst h0
      obtain ⟨g, hg⟩ : ∃ g, f = g + 1 := ⟨f - 1, by have := HF.out.1 rfl; omega⟩
      have c0 := HRS.out.cells.1
      have c1 := HRS.out.cells.2.1
      have c2 := HRS.out.cells.2.2.1
      rw [HL.out] at c0
      have hok : p ≤ L := by rw [← HL.out]; exact HRS.out.ok rfl
      have HEL := Lib.hid HRS.out.elems
      have f2 := HRS.out.cells.2.2.2.2.2
      by_cases h13 : p < L ∧ b.getD p 0 = 13
      · obtain ⟨hlt, hb13⟩ := h13
        obtain ⟨bb, off, rfl, hbb, hcell⟩ := HEL.out p (by rw [HL.out]; exact hlt)
        rw [hb13] at hcell
        have hDe : D = ⟨l, -1, false, ReadS.mtS b [13, 10] (p, 0)⟩ := by rw [← HDD.out, hg]; exact ReadS.hdS_end rfl ⟨by rw [HL.out]; exact hlt, hb13⟩
        have HDE := Lib.hid hDe
        have d1 : decide ((p : Int) < (L : Int)) = true := decide_eq_true (by omega)
        have d2 : decide (p < L) = true := decide_eq_true hlt
        have i0 : (0 : Int) ≤ (p : Int) := by omega
        have i1 : (p : Int) < (L : Int) := by omega
        have HMC := Lib.hid (fun n => rmt_any (HRS.out.below (below_drewN (Below.refl _ _) n)) ⟨#[13, 10]⟩ (by decide))
        clear hb13 hDe hg hlt
        go_wp2
        go_quiet (fail)
        go_wp2_with (go_at_call 22; (with_reducible refine (HMC.out _).mono ?_); rintro e w1 ⟨rfl, hR1, hM1⟩; have HR1 := Lib.hid hR1; have HM1 := Lib.hid ((mod_drewN (Mod.refl _ _) _).trans hM1); clear hR1 hM1)
        go_ret3
        rw [HDE.out]
        exact ⟨⟨_, _, _, _, _, rfl, Int.le_refl _, by show (-1 : Int) ≤ 100000; decide, fun _ => ⟨own_mod HOwn.out HM1.out HNX.out, rfl, rfl⟩⟩, HR1.out, HMD.out.trans HM1.out⟩
      · obtain ⟨u, hu⟩ : ∃ u, ReadS.utS b 58 smallB (p, 0) = u := ⟨_, rfl⟩
        have HUC := Lib.hid (fun n => until_letter (HRS.out.below (below_drewN (Below.refl _ _) n)))
        have hgo := ReadS.hdS_go (b := b) (least := least) (coded := true) (f := g) (l := l) (σ := (p, 0)) rfl (by rw [HL.out]; exact h13)
        rw [← hg, HDD.out] at hgo
        have hnm : ReadS.nmS b (p, 0) = (u.1, ReadS.needS (!u.1.toList.isEmpty) u.2) := by rw [← hu]; rfl
        rw [hnm] at hgo
        rw [hu] at HUC
        obtain ⟨s, τ0⟩ := u
        have HNE := Lib.hid (fun W (hW : RS errN w0 W X (.slice a0 b.length cap) b τ0) => need_any hW (!s.toList.isEmpty))
        obtain ⟨τ, hτ⟩ : ∃ τ, ReadS.needS (!s.toList.isEmpty) τ0 = τ := ⟨_, rfl⟩
        simp only [hτ] at hgo
        rw [hτ] at HNE
        have HTAU := Lib.hid hτ
        have HG1 := Lib.hid hg
        have HG1pos : Hid (1 ≤ g) := by show 1 ≤ g; have := HF.out.1 rfl; omega
        obtain ⟨p2, e2⟩ := τ
        by_cases he2 : e2 = 0
        · subst he2
          have hlt : p < L := by
            rcases Nat.lt_or_ge p L with h | h
            · exact h
            · exfalso
              have e2 : ReadS.utS b 58 smallB (p, 0) = (⟨#[]⟩, (0, 8)) := by
                unfold ReadS.utS
                rw [if_pos rfl]
                simp only
                rw [ReadS.ut_short (by rw [HL.out]; exact h), if_neg (by decide)]
              rw [hu] at e2
              injection e2 with e3 e4
              rw [e4] at hτ
              unfold ReadS.needS at hτ
              rw [if_neg (by simp)] at hτ
              injection hτ with _ h8
              cases h8
          obtain ⟨bb, off, rfl, hbb, hcell⟩ := HEL.out p (by rw [HL.out]; exact hlt)
          obtain ⟨z, hzk⟩ : ∃ z, b.getD p 0 = z := ⟨_, rfl⟩
          rw [hzk] at hcell
          have t1 : (z == 13) = false := bne_of (fun h => h13 ⟨hlt, by rw [hzk]; exact h⟩)
          have d1 : decide ((p : Int) < (L : Int)) = true := decide_eq_true (by omega)
          have d2 : decide (p < L) = true := decide_eq_true hlt
          have i0 : (0 : Int) ≤ (p : Int) := by omega
          have i1 : (p : Int) < (L : Int) := by omega
          rw [if_neg (by simp)] at hgo
          clear hzk h13 hlt hu hnm hτ hg
          rcases t2 : (s.toList == [108, 101, 110, 103, 116, 104]) with _ | _
          · rw [if_neg (by rw [t2]; simp)] at hgo
            rcases t3 : (s.toList == [99, 111, 100, 105, 110, 103]) with _ | _
            · rw [if_neg (by rw [t3]; simp)] at hgo
              rcases t4 : ownB s with _ | _
              · rw [if_neg (by rw [t4]; simp)] at hgo
                by_cases h40 : l.length = 40
                · have hDe : D = ⟨l, -1, false, (p2, 4)⟩ := by rw [hgo, if_pos h40]
                  have HGO := Lib.hid hDe
                  have t5 : ((l.length : Int) == 40) = true := by rw [h40]; rfl
                  have H40 := Lib.hid h40
                  clear hgo hDe h40
                  go_wp2
                  go_quiet (fail)
                  go_wp2_with (first
                    | (go_at_call 19; (with_reducible refine (HUC.out _).mono ?_); rintro e w1 ⟨rfl, hR1, hM1⟩; have HR1 := Lib.hid hR1; have HM1 := Lib.hid ((mod_drewN (Mod.refl _ _) _).trans hM1); clear hR1 hM1)
                    | (go_at_call 21; (with_reducible refine (HNE.out _ HR1.out).mono ?_); rintro e w2 ⟨rfl, hR2, hM2⟩; have HR2 := Lib.hid hR2; have HM2 := Lib.hid (HM1.out.trans hM2); have c2n := hR2.cells.2.2.1; have f2n := hR2.cells.2.2.2.2.2; clear hR2 hM2)
                    | (go_at_call 46; (with_reducible refine (own_any _ _).mono ?_); rintro e w3 ⟨rfl, rfl⟩))
                  have c2o := c2
                  have c2m : (w2.setCell ⟨X, 2, none⟩ (.iface 63 (.int .i64 4))).cell? ⟨X, 2, none⟩ = some (.iface 63 (.int .i64 4)) := World.cell?_setCell_same _ _ _ c2n
                  have hRS := HR2.out.step (modX w2 X 2 (errN 4)) (HR2.out.rd.fault (e := 4) (by decide) p2) (by intro h; cases h)
                  have hMM := HM2.out.trans (modX w2 X 2 (errN 4))
                  rw [errN4] at hRS hMM
                  have HRS5 := Lib.hid hRS
                  have HMM5 := Lib.hid hMM
                  clear hRS hMM
                  go_roundw
                  case rel => exact ⟨_, c, l, p2, 4, g, rfl, rfl, rfl, hl40, own_mod HOwn.out HMM5.out HNX.out, HRS5.out, HMD.out.trans HMM5.out, by rw [HGO.out]; obtain ⟨g', hg'⟩ : ∃ g', g = g' + 1 := ⟨g - 1, by have := HG1pos.out; omega⟩; rw [hg']; exact ReadS.hdS_err (by simp), fun h => absurd h (by decide), fun _ => HG1pos.out⟩
                  case measure => simp only [c2o, c2m]; omega
                · rw [if_neg h40] at hgo
                  have HGO := Lib.hid hgo
                  have t5 : ((l.length : Int) == 40) = false := bne_of (by omega)
                  have H40 := Lib.hid h40
                  have h40' : l.length < 40 := by omega
                  obtain ⟨vs, hvs⟩ : ∃ vs, ReadS.valS b (p2, 0) = vs := ⟨_, rfl⟩
                  have HVC := Lib.hid (fun W (hW : RS errN w0 W X (.slice (some ⟨bb, off, none⟩) b.length cap) b (p2, 0)) => value_any hW)
                  rw [hvs] at HGO HVC
                  obtain ⟨t, τ3⟩ := vs
                  clear hgo h40 hvs
                  go_wp2
                  go_quiet (fail)
                  go_wp2_with (first
                    | (go_at_call 19; (with_reducible refine (HUC.out _).mono ?_); rintro e w1 ⟨rfl, hR1, hM1⟩; have HR1 := Lib.hid hR1; have HM1 := Lib.hid ((mod_drewN (Mod.refl _ _) _).trans hM1); clear hR1 hM1)
                    | (go_at_call 21; (with_reducible refine (HNE.out _ HR1.out).mono ?_); rintro e w2 ⟨rfl, hR2, hM2⟩; have HR2 := Lib.hid hR2; have HM2 := Lib.hid (HM1.out.trans hM2); have c2n := hR2.cells.2.2.1; clear hR2 hM2)
                    | (go_at_call 46; (with_reducible refine (own_any _ _).mono ?_); rintro e w3 ⟨rfl, rfl⟩)
                    | (go_at_call 24; (with_reducible refine (HVC.out _ HR2.out).mono ?_); rintro e w3 ⟨rfl, hR3, hM3⟩; have HR3 := Lib.hid hR3; have HM3 := Lib.hid (HM2.out.trans hM3); have HO3 := Lib.hid (own_mod HOwn.out HM3.out HNX.out); have HZ3 := Lib.hid (Nat.le_trans HSZ.out HM3.out.size); clear hR3 hM3)
                    | (at_builtin; refine wpList_append elemF rfl _ _ rfl w.heap.size _ rfl (HO3.out.alloc _) _ [(s, t)] rfl (field_lit w3 s t) (by simp only [List.length_cons, List.length_nil]; omega) (by have := HZ3.out; simp; omega) ?_; intro v5 w5 hown5 hB5 hg5 hat5; obtain ⟨a5, c5, rfl⟩ := own_form hown5; have HO5 := Lib.hid hown5; have HG5 := Lib.hid hg5; clear hown5 hB5 hg5 hat5))
                  have HM5 := Lib.hid (((HMD.out.trans HM3.out).alloc _).grown HG5.out (fun k hk hlt => absurd (HO3.out.lt k hk).1 (by omega)))
                  have HR5 := Lib.hid ((HR3.out.below ((Below.refl _ _).alloc (Nat.le_refl _) (.cells #[.string s, .string t] 78))).other (S := fun k => (Value.slice a l.length c).ownBlock = some k) ((Mod.refl _ _).grown HG5.out (fun k hk _ => hk)) HNX.out (fun k hk => Nat.le_trans H.out.bel.size (HO3.out.lt k hk).1))
                  have c2o := c2
                  have hx : (match w5.cell? ⟨X, 2, none⟩ with | some (.iface _ _) => 0 | _ => 1) ≤ 1 := by split <;> omega
                  have HX5 := Lib.hid hx
                  clear hx
                  go_roundw
                  case rel => exact ⟨a5, c5, l ++ [(s, t)], τ3.1, τ3.2, g, by first | rfl | simp, rfl, rfl, by simp; omega, HO5.out, HR5.out, HM5.out, HGO.out.symm, fun _ => by have h1 := HF.out.1 (by first | trivial | rfl); have h2 := HG1.out; rw [List.length_append, List.length_singleton]; omega, fun _ => HG1pos.out⟩
                  case measure => have hx := HX5.out; simp only [c2o, List.length_append, List.length_singleton]; omega
              · rw [if_pos t4] at hgo
                have HGO := Lib.hid hgo
                clear hgo
                go_wp2
                go_quiet (fail)
                go_wp2_with (first
                  | (go_at_call 19; (with_reducible refine (HUC.out _).mono ?_); rintro e w1 ⟨rfl, hR1, hM1⟩; have HR1 := Lib.hid hR1; have HM1 := Lib.hid ((mod_drewN (Mod.refl _ _) _).trans hM1); clear hR1 hM1)
                  | (go_at_call 21; (with_reducible refine (HNE.out _ HR1.out).mono ?_); rintro e w2 ⟨rfl, hR2, hM2⟩; have HR2 := Lib.hid hR2; have HM2 := Lib.hid (HM1.out.trans hM2); have c2n := hR2.cells.2.2.1; have f2n := hR2.cells.2.2.2.2.2; clear hR2 hM2)
                  | (go_at_call 46; (with_reducible refine (own_any _ _).mono ?_); rintro e w3 ⟨rfl, rfl⟩))
                have c2o := c2
                have c2m : (w2.setCell ⟨X, 2, none⟩ (.iface 63 (.int .i64 2))).cell? ⟨X, 2, none⟩ = some (.iface 63 (.int .i64 2)) := World.cell?_setCell_same _ _ _ c2n
                have hRS := HR2.out.step (modX w2 X 2 (errN 2)) (HR2.out.rd.fault (e := 2) (by decide) p2) (by intro h; cases h)
                have hMM := HM2.out.trans (modX w2 X 2 (errN 2))
                rw [errN2] at hRS hMM
                have HRS5 := Lib.hid hRS
                have HMM5 := Lib.hid hMM
                clear hRS hMM
                go_roundw
                case rel => exact ⟨_, c, l, p2, 2, g, rfl, rfl, rfl, hl40, own_mod HOwn.out HMM5.out HNX.out, HRS5.out, HMD.out.trans HMM5.out, by rw [HGO.out]; obtain ⟨g', hg'⟩ : ∃ g', g = g' + 1 := ⟨g - 1, by have := HG1pos.out; omega⟩; rw [hg']; exact ReadS.hdS_err (by simp), fun h => absurd h (by decide), fun _ => HG1pos.out⟩
                case measure => simp only [c2o, c2m]; omega
            · have hDe : D = ⟨l, -1, true, ReadS.mtS b [58, 32, 99, 104, 117, 110, 107, 101, 100, 13, 10, 13, 10] (p2, 0)⟩ := by rw [hgo, if_pos ⟨t3, by first | trivial | rfl⟩]
              have HGO := Lib.hid hDe
              clear hgo hDe
              go_wp2
              go_quiet (fail)
              go_wp2_with (first
                | (go_at_call 19; (with_reducible refine (HUC.out _).mono ?_); rintro e w1 ⟨rfl, hR1, hM1⟩; have HR1 := Lib.hid hR1; have HM1 := Lib.hid ((mod_drewN (Mod.refl _ _) _).trans hM1); clear hR1 hM1)
                | (go_at_call 21; (with_reducible refine (HNE.out _ HR1.out).mono ?_); rintro e w2 ⟨rfl, hR2, hM2⟩; have HR2 := Lib.hid hR2; have HM2 := Lib.hid (HM1.out.trans hM2); have c2n := hR2.cells.2.2.1; clear hR2 hM2)
                | (go_at_call 22; (with_reducible refine (rmt_any HR2.out ⟨#[58, 32, 99, 104, 117, 110, 107, 101, 100, 13, 10, 13, 10]⟩ (by decide)).mono ?_); rintro e w4 ⟨rfl, hR4, hM4⟩; have HR4 := Lib.hid hR4; have HM4 := Lib.hid (HM2.out.trans hM4); clear hR4 hM4))
              go_ret3
              rw [HGO.out]
              exact ⟨⟨_, _, _, _, _, rfl, Int.le_refl _, by show (-1 : Int) ≤ 100000; decide, fun h => ⟨own_mod HOwn.out HM4.out HNX.out, rfl, rfl⟩⟩, HR4.out, HMD.out.trans HM4.out⟩
          · have hDe : D = ⟨l, (ReadS.lenS b least (p2, 0)).1, false, ReadS.mtS b [13, 10] (ReadS.lenS b least (p2, 0)).2⟩ := by rw [hgo, if_pos t2]
            have HGO := Lib.hid hDe
            clear hgo hDe
            go_wp2
            go_quiet (fail)
            go_wp2_with (first
              | (go_at_call 19; (with_reducible refine (HUC.out _).mono ?_); rintro e w1 ⟨rfl, hR1, hM1⟩; have HR1 := Lib.hid hR1; have HM1 := Lib.hid ((mod_drewN (Mod.refl _ _) _).trans hM1); clear hR1 hM1)
              | (go_at_call 21; (with_reducible refine (HNE.out _ HR1.out).mono ?_); rintro e w2 ⟨rfl, hR2, hM2⟩; have HR2 := Lib.hid hR2; have HM2 := Lib.hid (HM1.out.trans hM2); have c2n := hR2.cells.2.2.1; clear hR2 hM2)
              | (go_at_call 45; (with_reducible refine (digits_any HR2.out least hleast).mono ?_); rintro e w3 ⟨⟨m, rfl, hdg⟩, hR3, hM3⟩; have HR3 := Lib.hid hR3; have HM3 := Lib.hid (HM2.out.trans hM3); have HDG := Lib.hid hdg; clear hR3 hM3 hdg)
              | (go_at_call 22; (with_reducible refine (rmt_any HR3.out ⟨#[13, 10]⟩ (by decide)).mono ?_); rintro e w4 ⟨rfl, hR4, hM4⟩; have HR4 := Lib.hid hR4; have HM4 := Lib.hid (HM3.out.trans hM4); clear hR4 hM4))
            go_ret3
            rw [HGO.out]
            exact ⟨⟨_, _, _, _, _, rfl, by have := HDG.out.1.1; omega, HDG.out.1.2, fun h => ⟨own_mod HOwn.out HM4.out HNX.out, HDG.out.2 (mtS_zero h), rfl⟩⟩, HR4.out, HMD.out.trans HM4.out⟩
        · have HE2 := Lib.hid he2
          have hDe : D = ⟨l, -1, false, (p2, e2)⟩ := by rw [hgo, if_pos he2]
          have HGO : Hid (D = ⟨l, -1, false, (p2, e2)⟩) := hDe
          clear hu hgo hnm hτ hDe he2 hg
          by_cases hlt : p < L
          · obtain ⟨bb, off, rfl, hbb, hcell⟩ := HEL.out p (by rw [HL.out]; exact hlt)
            obtain ⟨z, hzk⟩ : ∃ z, b.getD p 0 = z := ⟨_, rfl⟩
            rw [hzk] at hcell
            have t1 : (z == 13) = false := bne_of (fun h => h13 ⟨hlt, by rw [hzk]; exact h⟩)
            have d1 : decide ((p : Int) < (L : Int)) = true := decide_eq_true (by omega)
            have d2 : decide (p < L) = true := decide_eq_true hlt
            have i0 : (0 : Int) ≤ (p : Int) := by omega
            have i1 : (p : Int) < (L : Int) := by omega
            clear hzk h13 hlt
            go_wp2
            go_quiet (fail)
            go_wp2_with (first
              | (go_at_call 19; (with_reducible refine (HUC.out _).mono ?_); rintro e w1 ⟨rfl, hR1, hM1⟩; have HR1 := Lib.hid hR1; have HM1 := Lib.hid ((mod_drewN (Mod.refl _ _) _).trans hM1); clear hR1 hM1)
              | (go_at_call 21; (with_reducible refine (HNE.out _ HR1.out).mono ?_); rintro e w2 ⟨rfl, hR2, hM2⟩; have HR2 := Lib.hid hR2; have HM2 := Lib.hid (HM1.out.trans hM2); have c2n := (hR2.cellsE HE2.out).2.2.1; clear hR2 hM2))
            have c2o := c2
            go_roundw
            case rel => exact ⟨a, c, l, p2, e2, g, rfl, rfl, rfl, hl40, own_mod HOwn.out HM2.out HNX.out, HR2.out, HMD.out.trans HM2.out, by rw [HGO.out]; obtain ⟨g', hg'⟩ : ∃ g', g = g' + 1 := ⟨g - 1, by have := HG1pos.out; omega⟩; rw [hg']; exact ReadS.hdS_err HE2.out, fun h => absurd h HE2.out, fun _ => HG1pos.out⟩
            case measure => simp only [c2o, c2n]; omega
          · have hpL : p = L := by omega
            subst hpL
            have d1 : decide ((p : Int) < (p : Int)) = false := decide_eq_false (by omega)
            have d2 : decide (p < p) = false := decide_eq_false (by omega)
            clear h13 hlt
            go_wp2
            go_quiet (fail)
            go_wp2_with (first
              | (go_at_call 19; (with_reducible refine (HUC.out _).mono ?_); rintro e w1 ⟨rfl, hR1, hM1⟩; have HR1 := Lib.hid hR1; have HM1 := Lib.hid ((mod_drewN (Mod.refl _ _) _).trans hM1); clear hR1 hM1)
              | (go_at_call 21; (with_reducible refine (HNE.out _ HR1.out).mono ?_); rintro e w2 ⟨rfl, hR2, hM2⟩; have HR2 := Lib.hid hR2; have HM2 := Lib.hid (HM1.out.trans hM2); have c2n := (hR2.cellsE HE2.out).2.2.1; clear hR2 hM2))
            have c2o := c2
            go_roundw
            case rel => exact ⟨a, c, l, p2, e2, g, rfl, rfl, rfl, hl40, own_mod HOwn.out HM2.out HNX.out, HR2.out, HMD.out.trans HM2.out, by rw [HGO.out]; obtain ⟨g', hg'⟩ : ∃ g', g = g' + 1 := ⟨g - 1, by have := HG1pos.out; omega⟩; rw [hg']; exact ReadS.hdS_err HE2.out, fun h => absurd h HE2.out, fun _ => HG1pos.out⟩
            case measure => simp only [c2o, c2n]; omega
    · have HE := Lib.hid h0
      have c2 := (HRS.out.cellsE h0).2.2.1
      obtain ⟨g, hg⟩ : ∃ g, f = g + 1 := ⟨f - 1, by have := HF.out.2 h0; omega⟩
      have hDe : D = ⟨l, -1, false, (p, e)⟩ := by rw [← HDD.out, hg]; exact ReadS.hdS_err h0
      have HDE := Lib.hid hDe
      clear h0 hg hDe
      go_wp2
      go_ret3
      rw [HDE.out]
      exact ⟨⟨_, _, _, _, _, rfl, Int.le_refl _, by show (-1 : Int) ≤ 100000; decide, fun h => absurd h HE.out⟩, HRS.out, HMD.out⟩
end Go.Proofs.YtkohbbnnjakhjaaDoor.ReadC
