/-
  log.all and log.Sum over this seat's translation, exactly; the sums of two spans that follow each other.
  Conditions: a slice that reads as entries.
-/
import Derived.Test.YtcpkikillmmjcaaGreatDoorEntriesArg
import Derived.IntWalk
import Derived.Deep.CutRange
namespace Go.Proofs.YtcpkikillmmjcaaGreatDoor.LogC
open Go.RowKit LogP LineC RowsK Args
set_option linter.unusedVariables false
set_option linter.unusedSimpArgs false

def firstE : List Int → Int
  | [] => 0
  | x :: r => if x = 0 then firstE r else x
/-- What is wrong with some entries; 0: nothing. -/
def allE (l : List En) : Int := if 1000 < l.length then 4 else firstE (l.map checkE)
theorem firstE_none : ∀ (l : List Int), (∀ x ∈ l, x = 0) → firstE l = 0
  | [], _ => rfl
  | x :: r, h => by
    unfold firstE
    rw [if_pos (h x (List.mem_cons_self ..))]
    exact firstE_none r (fun y hy => h y (List.mem_cons_of_mem _ hy))
theorem firstE_some : ∀ (p : List Int) (x : Int) (r : List Int), (∀ y ∈ p, y = 0) → x ≠ 0 → firstE (p ++ x :: r) = x
  | [], x, r, _, hx => by simp [firstE, hx]
  | y :: p, x, r, h, hx => by
    simp only [List.cons_append, firstE]
    rw [if_pos (h y (List.mem_cons_self ..))]
    exact firstE_some p x r (fun z hz => h z (List.mem_cons_of_mem _ hz)) hx
theorem firstE_zero : ∀ (l : List Int), firstE l = 0 → ∀ x ∈ l, x = 0
  | [], _, x, hx => absurd hx (by simp)
  | y :: r, h, x, hx => by
    unfold firstE at h
    by_cases hy : y = 0
    · rw [if_pos hy] at h
      rcases List.mem_cons.1 hx with rfl | hx
      · exact hy
      · exact firstE_zero r h x hx
    · rw [if_neg hy] at h; exact absurd h hy
/-- Whether an entry lies in a span. -/
def inB (f t : Int) (e : En) : Bool := decide (f ≤ e.time) && decide (e.time < t)
def cntS (l : List En) (f t : Int) : Int := ((l.filter (inB f t)).length : Int)
def bytS (l : List En) (f t : Int) : Int := ((l.filter (inB f t)).map En.bytes).sum
def badS (l : List En) (f t : Int) : Int := (((l.filter (inB f t)).filter fun e => decide (500 ≤ e.code)).length : Int)
theorem spans (a b c : Int) (h1 : a ≤ b) (h2 : b ≤ c) : ∀ l : List En, cntS l a b + cntS l b c = cntS l a c ∧ bytS l a b + bytS l b c = bytS l a c ∧ badS l a b + badS l b c = badS l a c
  | [] => by simp [cntS, bytS, badS]
  | e :: l => by
    obtain ⟨i1, i2, i3⟩ := spans a b c h1 h2 l
    simp only [cntS, bytS, badS] at i1 i2 i3 ⊢
    by_cases x1 : a ≤ e.time
    · by_cases x2 : e.time < b
      · have p1 : inB a b e = true := by simp [inB, x1, x2]
        have p2 : inB b c e = false := by simp [inB]; omega
        have p3 : inB a c e = true := by simp [inB, x1]; omega
        simp only [List.filter_cons, p1, p2, p3, if_true, Bool.false_eq_true, if_false]
        by_cases x3 : 500 ≤ e.code
        · simp only [List.filter_cons, x3, decide_true, if_true, List.length_cons, List.map_cons, List.sum_cons]; omega
        · simp only [List.filter_cons, x3, decide_false, Bool.false_eq_true, if_false, List.length_cons, List.map_cons, List.sum_cons]; omega
      · by_cases x4 : e.time < c
        · have p1 : inB a b e = false := by simp [inB]; omega
          have p2 : inB b c e = true := by simp [inB]; omega
          have p3 : inB a c e = true := by simp [inB, x1, x4]
          simp only [List.filter_cons, p1, p2, p3, if_true, Bool.false_eq_true, if_false]
          by_cases x3 : 500 ≤ e.code
          · simp only [List.filter_cons, x3, decide_true, if_true, List.length_cons, List.map_cons, List.sum_cons]; omega
          · simp only [List.filter_cons, x3, decide_false, Bool.false_eq_true, if_false, List.length_cons, List.map_cons, List.sum_cons]; omega
        · have p1 : inB a b e = false := by simp [inB]; omega
          have p2 : inB b c e = false := by simp [inB]; omega
          have p3 : inB a c e = false := by simp [inB]; omega
          simp only [List.filter_cons, p1, p2, p3, Bool.false_eq_true, if_false]
          omega
    · have p1 : inB a b e = false := by simp [inB]; omega
      have p2 : inB b c e = false := by simp [inB]; omega
      have p3 : inB a c e = false := by simp [inB]; omega
      simp only [List.filter_cons, p1, p2, p3, Bool.false_eq_true, if_false]
      omega
theorem take_snoc {α : Type} [Inhabited α] (l : List α) (k : Nat) (h : k < l.length) : l.take (k + 1) = l.take k ++ [l[k]] := List.take_succ_eq_append_getElem h
theorem at_cells {w : World} {a : Option Addr} {n c : Nat} {l : List En} (h : At encE w (.slice a n c) l) : n = l.length ∧ n ≤ c ∧ ∀ i (hi : i < l.length), ∃ b off, a = some ⟨b, off, none⟩ ∧ b < w.heap.size ∧
    w.cell? ⟨b, off + i * 6, none⟩ = some (.int .i64 l[i].time) ∧ w.cell? ⟨b, off + i * 6 + 1, none⟩ = some (.int .i64 l[i].code) ∧ w.cell? ⟨b, off + i * 6 + 2, none⟩ = some (.int .i64 l[i].bytes) ∧ w.cell? ⟨b, off + i * 6 + 3, none⟩ = some (.int .i64 l[i].took) ∧
    w.cell? ⟨b, off + i * 6 + 4, none⟩ = some (.string l[i].method) ∧ w.cell? ⟨b, off + i * 6 + 5, none⟩ = some (.string l[i].path) := by
  obtain ⟨a', cap, e, h1, h2, h3, h4⟩ := h
  simp only [Value.slice.injEq] at e
  obtain ⟨rfl, rfl, rfl⟩ := e
  refine ⟨rfl, h1, fun i hi => ?_⟩
  obtain ⟨b, off, rfl, hb, hc⟩ := h4 i hi
  have k6 : encE.k = 6 := rfl
  rw [k6] at hc
  refine ⟨b, off, rfl, hb, ?_, ?_, ?_, ?_, ?_, ?_⟩
  · have := hc 0 (by decide); simpa [encE] using this
  · have := hc 1 (by decide); simpa [encE, Nat.add_assoc] using this
  · have := hc 2 (by decide); simpa [encE, Nat.add_assoc] using this
  · have := hc 3 (by decide); simpa [encE, Nat.add_assoc] using this
  · have := hc 4 (by decide); simpa [encE, Nat.add_assoc] using this
  · have := hc 5 (by decide); simpa [encE, Nat.add_assoc] using this
set_option maxRecDepth 100000 in
set_option maxHeartbeats 8000000 in
theorem all_any (v : Value) (l : List En) (w : World) (h : At encE w v l) : Calls Tryz.prog 27 #[v] w fun e w' => e = .returned (errV (allE l)) ∧ Below w.heap.size w w' := by
  obtain ⟨a, c, rfl, -⟩ := id h
  have HA := Lib.hid h
  obtain ⟨n, hn⟩ : ∃ n, l.length = n := ⟨_, rfl⟩
  have HN := Lib.hid hn
  rw [hn]
  clear h
  by_cases hlong : 1000 < n
  · have hE : allE l = 4 := by unfold allE; rw [if_pos (by omega)]
    rw [hE]
    clear hn
    have hl2 : (1000 : Int) < (n : Int) := by omega
    go_enter Tryz.func27, Tryz.ntmps27
    go_wp2_with fail
    go_ret
    exact ⟨rfl, Below.refl _ _⟩
  · have HE : Hid (allE l = firstE (l.map checkE)) := by show _ = _; unfold allE; rw [if_neg (by omega)]
    clear hn
    have hl2 : ¬ (1000 : Int) < (n : Int) := by omega
    have hl3 : n ≤ 1000 := by omega
    go_enter Tryz.func27, Tryz.ntmps27
    go_wp2_with fail
    go_loopw [4, 5, 12] (fun v4 v5 i wr => ∃ k : Nat, i = .int .i64 (k : Int) ∧ k ≤ n ∧ Hid ((∀ e ∈ l.take k, checkE e = 0) ∧ Below w.heap.size w wr)) (fun _ _ i _ => n - (intOf i).toNat)
    case atStart => exact ⟨0, rfl, by omega, fun e he => by simp at he, Below.refl _ _⟩
    case round =>
      obtain ⟨k, rfl, hk, HR⟩ := hrel
      have HRR := HR
      clear HR
      by_cases hlt : k < n
      · have hlt2 : (k : Int) < (n : Int) := by omega
        have hk0 : (0 : Int) ≤ (k : Int) := by omega
        have hkl : k < l.length := by rw [HN.out]; exact hlt
        obtain ⟨b, off, rfl, hb, c0, c1, c2, c3, c4, c5⟩ := (at_cells HA.out).2.2 k hkl
        have x0 := (HRR.out.2.cell (p := ⟨b, off + k * 6, none⟩) hb).trans c0
        have x1 := (HRR.out.2.cell (p := ⟨b, off + k * 6 + 1, none⟩) hb).trans c1
        have x2 := (HRR.out.2.cell (p := ⟨b, off + k * 6 + 2, none⟩) hb).trans c2
        have x3 := (HRR.out.2.cell (p := ⟨b, off + k * 6 + 3, none⟩) hb).trans c3
        have x4 := (HRR.out.2.cell (p := ⟨b, off + k * 6 + 4, none⟩) hb).trans c4
        have x5 := (HRR.out.2.cell (p := ⟨b, off + k * 6 + 5, none⟩) hb).trans c5
        obtain ⟨en, hen⟩ : ∃ en, l[k] = en := ⟨_, rfl⟩
        rw [hen] at x0 x1 x2 x3 x4 x5
        have HCK := Lib.hid (check_any en)
        have HX := Lib.hid hen
        clear c0 c1 c2 c3 c4 c5 hen
        simp only [enV] at HCK
        by_cases hz : checkE en = 0
        · rw [show errV (checkE en) = .nilIface from by rw [hz]; rfl] at HCK
          have HZ := Lib.hid hz
          clear hz
          go_wp2_with (first
            | (go_at_call 20; refine (HCK.out _).mono ?_; rintro e w3 ⟨rfl, hB3⟩; have HB3 := Lib.hid hB3; clear hB3)
            | fail)
          go_roundw
          case rel =>
            refine ⟨k + 1, by simp, by omega, fun e he => ?_, HRR.out.2.trans ((((Below.refl wr.heap.size wr).alloc (Nat.le_refl _) (.cells #[.int .i64 en.time, .int .i64 en.code, .int .i64 en.bytes, .int .i64 en.took, .string en.method, .string en.path] 23)).mono HRR.out.2.size).trans (HB3.out.mono (by have := HRR.out.2.size; simp; omega)))⟩
            rw [List.take_succ_eq_append_getElem hkl, HX.out] at he
            rcases List.mem_append.1 he with he | he
            · exact HRR.out.1 e he
            · obtain rfl := List.mem_singleton.1 he
              exact HZ.out
          case measure => simp [intOf]; omega
        · rw [show errV (checkE en) = .iface 52 (.int .i64 (checkE en)) from if_neg hz] at HCK
          have hf : firstE (l.map checkE) = checkE en := by
            have e1 : l = l.take k ++ l[k] :: l.drop (k + 1) := by
              rw [← List.drop_eq_getElem_cons hkl, List.take_append_drop]
            rw [e1, HX.out, List.map_append, List.map_cons]
            exact firstE_some _ _ _ (fun y hy => by obtain ⟨z, hz, rfl⟩ := List.mem_map.1 hy; exact HRR.out.1 z hz) hz
          have HF : Hid (allE l = checkE en ∧ checkE en ≠ 0) := ⟨HE.out.trans hf, hz⟩
          clear hz hf
          generalize checkE en = ck at *
          go_wp2_with (first
            | (go_at_call 20; refine (HCK.out _).mono ?_; rintro e w3 ⟨rfl, hB3⟩; have HB3 := Lib.hid hB3; clear hB3)
            | fail)
          go_ret
          exact ⟨by rw [HF.out.1]; exact congrArg Ending.returned (if_neg HF.out.2).symm, HRR.out.2.trans ((((Below.refl wr.heap.size wr).alloc (Nat.le_refl _) (.cells #[.int .i64 en.time, .int .i64 en.code, .int .i64 en.bytes, .int .i64 en.took, .string en.method, .string en.path] 23)).mono HRR.out.2.size).trans (HB3.out.mono (by have := HRR.out.2.size; simp; omega)))⟩
      · obtain rfl : k = n := by omega
        go_wp2_with fail
        go_ret
        refine ⟨?_, HRR.out.2⟩
        rw [HE.out, firstE_none _ (fun y hy => by
          obtain ⟨z, hz, rfl⟩ := List.mem_map.1 hy
          exact HRR.out.1 z (by rw [← HN.out, List.take_length]; exact hz))]
        rfl
theorem filt_snoc (l : List En) (k : Nat) (h : k < l.length) (p : En → Bool) : (l.take (k + 1)).filter p = (l.take k).filter p ++ if p l[k] then [l[k]] else [] := by
  rw [List.take_succ_eq_append_getElem h, List.filter_append]
  congr 1
  by_cases hp : p l[k] = true
  · simp [hp]
  · simp [hp]
theorem sums_snoc (l : List En) (k : Nat) (h : k < l.length) (f t : Int) : (inB f t l[k] = false → cntS (l.take (k + 1)) f t = cntS (l.take k) f t ∧ bytS (l.take (k + 1)) f t = bytS (l.take k) f t ∧ badS (l.take (k + 1)) f t = badS (l.take k) f t) ∧
    (inB f t l[k] = true → cntS (l.take (k + 1)) f t = cntS (l.take k) f t + 1 ∧ bytS (l.take (k + 1)) f t = bytS (l.take k) f t + l[k].bytes ∧ badS (l.take (k + 1)) f t = badS (l.take k) f t + if 500 ≤ l[k].code then 1 else 0) := by
  have hf := filt_snoc l k h (inB f t)
  constructor
  · intro hp
    rw [if_neg (by simp [hp]), List.append_nil] at hf
    simp only [cntS, bytS, badS, hf, and_self]
  · intro hp
    rw [if_pos hp] at hf
    simp only [cntS, bytS, badS, hf, List.length_append, List.length_singleton, List.map_append, List.map_cons, List.map_nil, List.sum_append, List.sum_cons, List.sum_nil, List.filter_append]
    refine ⟨by omega, by omega, ?_⟩
    by_cases h5 : 500 ≤ l[k].code
    · simp [h5]
    · simp [h5]
theorem sums_bd (f t : Int) : ∀ l : List En, (∀ e ∈ l, checkE e = 0) → (0 ≤ cntS l f t ∧ cntS l f t ≤ l.length) ∧ (0 ≤ bytS l f t ∧ bytS l f t ≤ l.length * 1000000) ∧ (0 ≤ badS l f t ∧ badS l f t ≤ l.length)
  | [], _ => by simp [cntS, bytS, badS]
  | e :: l, h => by
    obtain ⟨i1, i2, i3⟩ := sums_bd f t l (fun x hx => h x (List.mem_cons_of_mem _ hx))
    have hb := (rangeE_bd (check_parts (h e (List.mem_cons_self ..))).1).2.2.1
    simp only [cntS, bytS, badS] at i1 i2 i3 ⊢
    by_cases p : inB f t e = true
    · simp only [List.filter_cons, p, if_true, List.length_cons, List.map_cons, List.sum_cons]
      by_cases x3 : 500 ≤ e.code
      · simp only [x3, decide_true, if_true, List.length_cons]; omega
      · simp only [x3, decide_false, Bool.false_eq_true, if_false]; omega
    · simp only [List.filter_cons, p, Bool.false_eq_true, if_false, List.length_cons]
      omega
/-- What Sum hands back. -/
def sumV (l : List En) (f t : Int) : Value := if allE l = 0 then .tuple #[.int .i64 (cntS l f t), .int .i64 (bytS l f t), .int .i64 (badS l f t), .nilIface] else .tuple #[.int .i64 0, .int .i64 0, .int .i64 0, errV (allE l)]
set_option maxRecDepth 100000 in
set_option maxHeartbeats 8000000 in
theorem sum_any (v : Value) (l : List En) (f t : Int) (w : World) (h : At encE w v l) : Calls Tryz.prog 13 #[v, .int .i64 f, .int .i64 t] w fun e w' => e = .returned (sumV l f t) ∧ Below w.heap.size w w' := by
  obtain ⟨a, c, rfl, -⟩ := id h
  have HA := Lib.hid h
  have HAL := Lib.hid (all_any _ l w h)
  obtain ⟨n, hn⟩ : ∃ n, l.length = n := ⟨_, rfl⟩
  have HN := Lib.hid hn
  rw [hn] at HAL ⊢
  clear h
  by_cases hz : allE l = 0
  · have HV : Hid (sumV l f t = .tuple #[.int .i64 (cntS l f t), .int .i64 (bytS l f t), .int .i64 (badS l f t), .nilIface]) := if_pos hz
    have hcz : n ≤ 1000 ∧ ∀ e ∈ l, checkE e = 0 := by
      unfold allE at hz
      by_cases h1 : 1000 < l.length
      · rw [if_pos h1] at hz; exact absurd hz (by decide)
      · rw [if_neg h1] at hz
        exact ⟨by omega, fun e he => firstE_zero _ hz _ (List.mem_map.2 ⟨e, he, rfl⟩)⟩
    rw [show errV (allE l) = .nilIface from by rw [hz]; rfl] at HAL
    have hn1 := hcz.1
    have HCZ := Lib.hid hcz.2
    clear hz hcz hn
    go_enter Tryz.func13, Tryz.ntmps13
    go_wp2_with (first
      | (go_at_call 27; refine HAL.out.mono ?_; rintro e w1 ⟨rfl, hB1⟩; have HB1 := Lib.hid hB1; clear hB1)
      | fail)
    go_loopw [6, 7, 8, 12, 20] (fun v6 v7 v8 v12 i wr => ∃ (k : Nat) (x y z : Int), v6 = .int .i64 x ∧ v7 = .int .i64 y ∧ v8 = .int .i64 z ∧ i = .int .i64 (k : Int) ∧ k ≤ n ∧ Hid (x = cntS (l.take k) f t ∧ y = bytS (l.take k) f t ∧ z = badS (l.take k) f t ∧ Below w.heap.size w wr)) (fun _ _ _ _ i _ => n - (intOf i).toNat)
    case atStart => exact ⟨0, 0, 0, 0, rfl, rfl, rfl, rfl, by omega, by simp [cntS], by simp [bytS], by simp [badS], HB1.out⟩
    case round =>
      obtain ⟨k, x, y, z, rfl, rfl, rfl, rfl, hk, HR⟩ := hrel
      have HRR := HR
      clear HR
      by_cases hlt : k < n
      · have hlt2 : (k : Int) < (n : Int) := by omega
        have hk0 : (0 : Int) ≤ (k : Int) := by omega
        have hkl : k < l.length := by rw [HN.out]; exact hlt
        obtain ⟨b, off, rfl, hb, c0, c1, c2, c3, c4, c5⟩ := (at_cells HA.out).2.2 k hkl
        have x0 := (HRR.out.2.2.2.cell (p := ⟨b, off + k * 6, none⟩) hb).trans c0
        have x1 := (HRR.out.2.2.2.cell (p := ⟨b, off + k * 6 + 1, none⟩) hb).trans c1
        have x2 := (HRR.out.2.2.2.cell (p := ⟨b, off + k * 6 + 2, none⟩) hb).trans c2
        have x3 := (HRR.out.2.2.2.cell (p := ⟨b, off + k * 6 + 3, none⟩) hb).trans c3
        have x4 := (HRR.out.2.2.2.cell (p := ⟨b, off + k * 6 + 4, none⟩) hb).trans c4
        have x5 := (HRR.out.2.2.2.cell (p := ⟨b, off + k * 6 + 5, none⟩) hb).trans c5
        have hbd := sums_bd f t (l.take k) (fun e he => HCZ.out e (List.mem_of_mem_take he))
        have hsn := sums_snoc l k hkl f t
        have hcb := (rangeE_bd (check_parts (HCZ.out l[k] (List.getElem_mem hkl))).1).2.2.1
        obtain ⟨en, hen⟩ : ∃ en, l[k] = en := ⟨_, rfl⟩
        rw [hen] at x0 x1 x2 x3 x4 x5 hsn hcb
        rw [List.length_take, Nat.min_eq_left (by omega), ← HRR.out.1, ← HRR.out.2.1, ← HRR.out.2.2.1] at hbd
        rw [← HRR.out.1, ← HRR.out.2.1, ← HRR.out.2.2.1] at hsn
        have HSN := Lib.hid hsn
        have hxb : 0 ≤ x ∧ x ≤ 1000 := by omega
        have hyb : 0 ≤ y ∧ y ≤ 1000000000 := by omega
        have hzb : 0 ≤ z ∧ z ≤ 1000 := by omega
        have HB2 : Hid (Below w.heap.size w (wr.alloc (.cells #[.int .i64 en.time, .int .i64 en.code, .int .i64 en.bytes, .int .i64 en.took, .string en.method, .string en.path] 23))) := HRR.out.2.2.2.alloc HRR.out.2.2.2.size _
        clear c0 c1 c2 c3 c4 c5 hen hbd hsn
        by_cases t1 : en.time < f
        · have g1 : decide (en.time < f) = true := decide_eq_true t1
          have hp : inB f t en = false := by simp [inB]; omega
          have HP := Lib.hid (HSN.out.1 hp)
          clear hp
          go_wp2_with fail
          go_roundw
          case rel => exact ⟨k + 1, x, y, z, rfl, rfl, rfl, by simp, by omega, HP.out.1.symm, HP.out.2.1.symm, HP.out.2.2.symm, HB2.out⟩
          case measure => simp [intOf]; omega
        · have g1 : decide (en.time < f) = false := decide_eq_false t1
          by_cases t2 : t ≤ en.time
          · have g2 : decide (t ≤ en.time) = true := decide_eq_true t2
            have hp : inB f t en = false := by simp [inB]; omega
            have HP := Lib.hid (HSN.out.1 hp)
            clear hp
            go_wp2_with fail
            go_roundw
            case rel => exact ⟨k + 1, x, y, z, rfl, rfl, rfl, by simp, by omega, HP.out.1.symm, HP.out.2.1.symm, HP.out.2.2.symm, HB2.out⟩
            case measure => simp [intOf]; omega
          · have g2 : decide (t ≤ en.time) = false := decide_eq_false t2
            have hp : inB f t en = true := by simp [inB]; omega
            have HP := Lib.hid (HSN.out.2 hp)
            clear hp
            have w1' : IntKind.i64.wrap (x + 1) = x + 1 := IntWalk.i64_in _ (by omega)
            have w2' : IntKind.i64.wrap (y + en.bytes) = y + en.bytes := IntWalk.i64_in _ (by omega)
            have w3' : IntKind.i64.wrap (z + 1) = z + 1 := IntWalk.i64_in _ (by omega)
            by_cases t3 : 500 ≤ en.code
            · have g3 : decide (500 ≤ en.code) = true := decide_eq_true t3
              go_wp2_with fail
              go_roundw
              case rel => exact ⟨k + 1, x + 1, y + en.bytes, z + 1, by simp, by simp, by simp, by simp, by omega, HP.out.1.symm, HP.out.2.1.symm, by rw [HP.out.2.2, if_pos t3], HB2.out⟩
              case measure => simp [intOf]; omega
            · have g3 : decide (500 ≤ en.code) = false := decide_eq_false t3
              go_wp2_with fail
              go_roundw
              case rel => exact ⟨k + 1, x + 1, y + en.bytes, z, by simp, by simp, rfl, by simp, by omega, HP.out.1.symm, HP.out.2.1.symm, by rw [HP.out.2.2, if_neg t3]; omega, HB2.out⟩
              case measure => simp [intOf]; omega
      · obtain rfl : k = n := by omega
        go_wp2_with fail
        refine bodyPost_ret (v := .tuple #[.int .i64 x, .int .i64 y, .int .i64 z, .nilIface]) (by simp [results, Tryz.results13, go_sem]) rfl ⟨?_, HRR.out.2.2.2⟩
        rw [HV.out, HRR.out.1, HRR.out.2.1, HRR.out.2.2.1, ← HN.out, List.take_length]
  · have HV : Hid (sumV l f t = .tuple #[.int .i64 0, .int .i64 0, .int .i64 0, errV (allE l)]) := if_neg hz
    rw [show errV (allE l) = .iface 52 (.int .i64 (allE l)) from if_neg hz] at HAL
    have HZ := Lib.hid hz
    clear hz hn
    obtain ⟨ck, hck⟩ : ∃ ck, allE l = ck := ⟨_, rfl⟩
    have HCK := Lib.hid hck
    rw [hck] at HAL
    clear hck
    go_enter Tryz.func13, Tryz.ntmps13
    go_wp2_with (first
      | (go_at_call 27; refine HAL.out.mono ?_; rintro e w1 ⟨rfl, hB1⟩; have HB1 := Lib.hid hB1; clear hB1)
      | fail)
    refine bodyPost_ret (v := .tuple #[.int .i64 0, .int .i64 0, .int .i64 0, .iface 52 (.int .i64 ck)]) (by simp [results, Tryz.results13, go_sem]) rfl ⟨?_, HB1.out⟩
    rw [HV.out, show errV (allE l) = .iface 52 (.int .i64 (allE l)) from if_neg HZ.out, HCK.out]
end Go.Proofs.YtcpkikillmmjcaaGreatDoor.LogC
