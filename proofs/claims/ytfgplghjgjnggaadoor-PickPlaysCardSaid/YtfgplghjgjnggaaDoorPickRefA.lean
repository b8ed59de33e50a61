/-
  The reference's row of those who may want: At, Least.
  Conditions: where its blocks lie.
-/
import Derived.Test.YtfgplghjgjnggaaDoorPick
import Derived.Test.YtfgplghjgjnggaaDoorRowsK
import Derived.Deep.Cut
import Derived.Deep.CutRange
import Derived.Deep.QuietTactic
import Derived.BigQuiet
namespace Go.Proofs.YtfgplghjgjnggaaDoor.PickR
open Go.RowKit MapsL ModL RowsK PickC
set_option linter.unusedSimpArgs false
set_option linter.unusedVariables false

def E : Enc Ent where
  k := 4
  enc := fun e => [.int .i64 e.id, .int .i64 e.wt, .int .i64 e.sc, .bool e.wants]
  len := fun _ => rfl
  one := fun e v hv => by simp at hv; rcases hv with rfl | rfl | rfl | rfl <;> rfl
  pos := by decide
theorem elem : Elem Tryd.prog 26 44 E.k 32 := Elem.of Tryd.underlying26 (z := .agg #[.int .i64 0, .int .i64 0, .int .i64 0, .bool false]) (by kernel_rfl) (by rfl) (by decide)
/-- The reference's row lies so. -/
structure RefP (w : World) (q : Nat) (v : Value) (l : List Ent) : Prop where
  c0 : w.cell? ⟨q, 0, none⟩ = some v
  f0 : w.frozen? ⟨q, 0, none⟩ = false
  own : Own E w (q + 1) 44 v l
theorem RefP.lt {w : World} {q : Nat} {v : Value} {l : List Ent} (h : RefP w q v l) : q < w.heap.size := block_lt_of_cell h.c0
/-- A row's cells, in the walk's words. -/
theorem RefP.open {w : World} {q : Nat} {v : Value} {l : List Ent} (h : RefP w q v l) : ∃ a cap, v = .slice a l.length cap ∧ l.length ≤ cap ∧ cap ≤ 9223372036854775807 ∧
    ∀ i (hi : i < l.length), ∃ g, a = some ⟨g, 0, none⟩ ∧ q + 1 ≤ g ∧ g < w.heap.size ∧ w.cell? ⟨g, i * 4, none⟩ = some (.int .i64 (l[i]).id) ∧ w.cell? ⟨g, i * 4 + 1, none⟩ = some (.int .i64 (l[i]).wt) ∧ w.cell? ⟨g, i * 4 + 2, none⟩ = some (.int .i64 (l[i]).sc) ∧ w.cell? ⟨g, i * 4 + 3, none⟩ = some (.bool (l[i]).wants) := by
  rcases Nat.eq_zero_or_pos l.length with h0 | h0
  · obtain ⟨a, cap, rfl, h1, h2, _⟩ := h.own.slice
    exact ⟨a, cap, rfl, h1, h2, fun i hi => absurd hi (by omega)⟩
  · obtain ⟨g, cap, rfl, h1, h2, h3, h4, h5⟩ := h.own.slice1 l.length rfl h0
    exact ⟨_, cap, rfl, h1, h2, fun i hi => ⟨g, rfl, h3, h4, h5 i hi 0 (by decide), h5 i hi 1 (by decide), h5 i hi 2 (by decide), h5 i hi 3 (by decide)⟩⟩
def idx (l : List Ent) (id : Int) : Int := match l.findIdx? fun e => e.id == id with | some n => n | none => -1
set_option maxRecDepth 100000 in
set_option maxHeartbeats 2000000 in
theorem at_any {w : World} {q : Nat} {v : Value} {l : List Ent} (h : RefP w q v l) (id : Int) (hid : -9223372036854775808 ≤ id ∧ id ≤ 9223372036854775807) :
    Calls Tryd.prog 27 #[.pointer (some ⟨q, 0, none⟩), .int .i64 id] w fun e w' => w = w' ∧ ((e = .returned (.int .i64 (-1)) ∧ ∀ x ∈ l, x.id ≠ id) ∨ ∃ n : Nat, e = .returned (.int .i64 n) ∧ ∃ x, l[n]? = some x ∧ x.id = id) := by
  have hc0 := h.c0
  obtain ⟨a, cap, rfl, h1, h2, hel⟩ := h.open
  have HEL := Lib.hid hel
  obtain ⟨L, hL⟩ : ∃ L, l.length = L := ⟨_, rfl⟩
  have HL := Lib.hid hL
  rw [hL] at hc0 h1
  clear hel h hL
  go_enter Tryd.func27, Tryd.ntmps27
  go_wp2
  go_loop [5] (fun iv => ∃ k : Nat, iv = .int .i64 k ∧ k ≤ L ∧ Hid (∀ j (hj : j < l.length), j < k → (l[j]).id ≠ id)) (fun iv => L - (intOf iv).toNat)
  case atStart => exact ⟨0, rfl, Nat.zero_le _, fun j hj h => by omega⟩
  case round =>
    obtain ⟨k, rfl, hk, HP⟩ := hrel
    by_cases hlt : k < L
    · obtain ⟨g, rfl, hg, hg2, hx0, _⟩ := HEL.out k (by rw [HL.out]; exact hlt)
      obtain ⟨x, hx⟩ : ∃ x, (l[k]'(by rw [HL.out]; exact hlt)).id = x := ⟨_, rfl⟩
      rw [hx] at hx0
      have HX := Lib.hid hx
      clear hx
      by_cases he : x = id
      · subst he
        go_wp2
        go_ret
        exact ⟨rfl, .inr ⟨k, rfl, l[k]'(by rw [HL.out]; exact hlt), List.getElem?_eq_getElem (by rw [HL.out]; exact hlt), HX.out⟩⟩
      · go_wp2
        go_round
        case rel => exact ⟨k + 1, by go_num, by omega, fun j hj h => by
          by_cases e : j = k
          · subst e; rw [HX.out]; exact he
          · exact HP.out j hj (by omega)⟩
        case measure => simp [intOf]; omega
    · obtain rfl : k = L := by omega
      go_wp2
      go_ret
      exact ⟨rfl, .inl ⟨rfl, fun x hx => by
        obtain ⟨j, hj, rfl⟩ := List.getElem_of_mem hx
        exact HP.out j hj (by have := HL.out; omega)⟩⟩
/-- Who is ahead of all, by its place: -1, if none wants. -/
def Lead (l : List Ent) (k : Int) : Prop := (k = -1 ∧ ∀ e ∈ l, e.wants = false) ∨ ∃ (n : Nat) (x : Ent), k = n ∧ l[n]? = some x ∧ x.wants = true ∧ ∀ y ∈ l, y.wants = true → ¬ PickC.ahead y x
theorem Lead.skip {l : List Ent} {k : Int} {x : Ent} (h : Lead l k) (hx : x.wants = false ∨ ∃ (n : Nat) (y : Ent), k = n ∧ l[n]? = some y ∧ ¬ PickC.ahead x y) : Lead (l ++ [x]) k := by
  rcases h with ⟨h1, h2⟩ | ⟨n, y, h1, h2, h3, h4⟩
  · rcases hx with hx | ⟨n, y, e, _⟩
    · refine .inl ⟨h1, fun e he => ?_⟩
      rcases List.mem_append.1 he with he | he
      · exact h2 e he
      · obtain rfl := List.mem_singleton.1 he; exact hx
    · omega
  · have hlt : n < l.length := (List.getElem?_eq_some_iff.1 h2).1
    refine .inr ⟨n, y, h1, by rw [List.getElem?_append_left hlt]; exact h2, h3, fun z hz hzw => ?_⟩
    rcases List.mem_append.1 hz with hz | hz
    · exact h4 z hz hzw
    · obtain rfl := List.mem_singleton.1 hz
      rcases hx with hx | ⟨n2, y2, e2, e3, e4⟩
      · rw [hx] at hzw; cases hzw
      · obtain rfl : n = n2 := by omega
        rw [h2] at e3
        obtain rfl := Option.some.inj e3
        exact e4
theorem Lead.take {l : List Ent} {k : Int} {x : Ent} (h : Lead l k) (hw : x.wants = true) (hx : k = -1 ∨ ∃ (n : Nat) (y : Ent), k = n ∧ l[n]? = some y ∧ PickC.ahead x y) : Lead (l ++ [x]) l.length := by
  refine .inr ⟨l.length, x, rfl, by simp, hw, fun z hz hzw => ?_⟩
  rcases List.mem_append.1 hz with hz | hz
  · rcases h with ⟨h1, h2⟩ | ⟨n, y, h1, h2, h3, h4⟩
    · rw [h2 z hz] at hzw; cases hzw
    · rcases hx with hx | ⟨n2, y2, e2, e3, e4⟩
      · omega
      · obtain rfl : n = n2 := by omega
        rw [h2] at e3
        obtain rfl := Option.some.inj e3
        have h5 := h4 z hz hzw
        unfold PickC.ahead at *
        omega
  · obtain rfl := List.mem_singleton.1 hz
    unfold PickC.ahead
    omega
set_option maxRecDepth 100000 in
set_option maxHeartbeats 4000000 in
theorem least_ref {w : World} {q : Nat} {v : Value} {l : List Ent} (h : RefP w q v l) :
    Calls Tryd.prog 16 #[.pointer (some ⟨q, 0, none⟩)] w fun e w' => ∃ k, e = .returned (.int .i64 k) ∧ Lead l k ∧ Below w.heap.size w w' := by
  have hc0 := h.c0
  have hlt0 := h.lt
  obtain ⟨a, cap, rfl, h1, h2, hel⟩ := h.open
  have HEL := Lib.hid hel
  obtain ⟨L, hL⟩ : ∃ L, l.length = L := ⟨_, rfl⟩
  have HL := Lib.hid hL
  rw [hL] at hc0 h1
  clear hel h hL
  go_enter Tryd.func16, Tryd.ntmps16
  go_wp2
  go_loopw [3, 4] (fun av iv wr => ∃ (k : Nat) (t : Int), iv = .int .i64 k ∧ av = .int .i64 t ∧ k ≤ L ∧ Below w.heap.size w wr ∧ Hid (Lead (l.take k) t)) (fun _ iv _ => L - (intOf iv).toNat)
  case atStart => exact ⟨0, -1, rfl, rfl, Nat.zero_le _, Below.refl _ _, .inl ⟨rfl, by simp⟩⟩
  case round =>
    obtain ⟨k, t, rfl, rfl, hk, hB, HP⟩ := hrel
    have HB := Lib.hid hB
    have hcr := (hB.cell (p := ⟨q, 0, none⟩) hlt0).trans hc0
    have hszr := hB.size
    by_cases hlt : k < L
    · obtain ⟨g, rfl, hg, hg2, x0, x1, x2, x3⟩ := HEL.out k (by rw [HL.out]; exact hlt)
      obtain ⟨x, hx⟩ : ∃ x, l[k]'(by rw [HL.out]; exact hlt) = x := ⟨_, rfl⟩
      rw [hx] at x0 x1 x2 x3
      have y0 := (hB.cell (p := ⟨g, k * 4, none⟩) hg2).trans x0
      have y1 := (hB.cell (p := ⟨g, k * 4 + 1, none⟩) hg2).trans x1
      have y2 := (hB.cell (p := ⟨g, k * 4 + 2, none⟩) hg2).trans x2
      have y3 := (hB.cell (p := ⟨g, k * 4 + 3, none⟩) hg2).trans x3
      have hstep : l.take (k + 1) = l.take k ++ [x] := by rw [List.take_succ_eq_append_getElem (by rw [HL.out]; exact hlt), hx]
      have HST := Lib.hid hstep
      have hq1 : (k : Int) < (L : Int) := by omega
      have hq2 : (0 : Int) ≤ (k : Int) := by omega
      clear hx hstep x0 x1 x2 x3 hB
      go_upto_region 6 with fail
      have xc0 : (wr.alloc (.cells #[.int .i64 x.id, .int .i64 x.wt, .int .i64 x.sc, .bool x.wants] 44)).cell? ⟨wr.heap.size, 0, none⟩ = some (.int .i64 x.id) := by simp
      have xc2 : (wr.alloc (.cells #[.int .i64 x.id, .int .i64 x.wt, .int .i64 x.sc, .bool x.wants] 44)).cell? ⟨wr.heap.size, 2, none⟩ = some (.int .i64 x.sc) := by simp
      have xc3 : (wr.alloc (.cells #[.int .i64 x.id, .int .i64 x.wt, .int .i64 x.sc, .bool x.wants] 44)).cell? ⟨wr.heap.size, 3, none⟩ = some (.bool x.wants) := by simp
      have hBa := (Below.refl wr.heap.size wr).alloc (Nat.le_refl _) (.cells #[.int .i64 x.id, .int .i64 x.wt, .int .i64 x.sc, .bool x.wants] 44)
      have hcr3 := (hBa.cell (p := ⟨q, 0, none⟩) (by simp only; omega)).trans hcr
      have HB3 := Lib.hid (HB.out.trans (hBa.mono hszr))
      have hyc : ∀ (n : Nat) (y : Ent), n < k → l[n]? = some y → (wr.alloc (.cells #[.int .i64 x.id, .int .i64 x.wt, .int .i64 x.sc, .bool x.wants] 44)).cell? ⟨g, n * 4, none⟩ = some (.int .i64 y.id) ∧ (wr.alloc (.cells #[.int .i64 x.id, .int .i64 x.wt, .int .i64 x.sc, .bool x.wants] 44)).cell? ⟨g, n * 4 + 2, none⟩ = some (.int .i64 y.sc) := fun n y hn hy => by
        have hnl : n < l.length := by rw [HL.out]; omega
        obtain ⟨g', e, _, hg', z0, _, z2, _⟩ := HEL.out n hnl
        simp only [Option.some.injEq, Addr.mk.injEq, and_true] at e
        subst e
        have e2 : l[n] = y := by rw [List.getElem?_eq_getElem hnl] at hy; exact Option.some.inj hy
        rw [e2] at z0 z2
        exact ⟨(hBa.cell (p := ⟨g, n * 4, none⟩) (by simp only; omega)).trans ((HB.out.cell (p := ⟨g, n * 4, none⟩) hg').trans z0), (hBa.cell (p := ⟨g, n * 4 + 2, none⟩) (by simp only; omega)).trans ((HB.out.cell (p := ⟨g, n * 4 + 2, none⟩) hg').trans z2)⟩
      have HYC := Lib.hid hyc
      generalize (wr.alloc (.cells #[.int .i64 x.id, .int .i64 x.wt, .int .i64 x.sc, .bool x.wants] 44)) = w3 at *
      clear y0 y1 y2 y3 hcr hyc hBa
      have HLN : Hid ((l.take k).length = k) := (by show _ = _; rw [List.length_take, HL.out]; omega)
      by_cases hxw : x.wants = true
      · rcases HP.out with ⟨ht, hnone⟩ | ⟨n, y, ht, hy, hyw, hyb⟩
        · have HTK : Hid (Lead (l.take k ++ [x]) k) := (by have h := Lead.take HP.out hxw (.inl ht); rw [HLN.out] at h; exact h)
          subst ht
          rw [hxw] at xc3
          clear hnone
          go_quiet (fail)
          go_wp2
          exact ⟨⟨k + 1, k, by go_num, rfl, by omega, below_drewN HB3.out _, by have h := HTK.out; rw [← HST.out] at h; exact h⟩, by simp [intOf]; omega⟩
        · have hnk : n < k := by have h := (List.getElem?_eq_some_iff.1 hy).1; rw [HLN.out] at h; exact h
          have hyl : l[n]? = some y := by rw [List.getElem?_take, if_pos hnk] at hy; exact hy
          obtain ⟨z0, z2⟩ := HYC.out n y hnk hyl
          have HTK : Hid (PickC.ahead x y → Lead (l.take k ++ [x]) k) := fun ha => by have h := Lead.take HP.out hxw (.inr ⟨n, y, ht, hy, ha⟩); rw [HLN.out] at h; exact h
          have HSK : Hid (¬ PickC.ahead x y → Lead (l.take k ++ [x]) t) := fun ha => Lead.skip HP.out (.inr ⟨n, y, ht, hy, ha⟩)
          subst ht
          rw [hxw] at xc3
          have hn1 : (0 : Int) ≤ (n : Int) := by omega
          have hn2 : (n : Int) < (L : Int) := by omega
          have hn3 : ¬ (n : Int) < 0 := by omega
          clear hyb hyw hy hyl
          unfold PickC.ahead at HTK HSK
          obtain ⟨xs, hxs⟩ : ∃ z, x.sc = z := ⟨_, rfl⟩
          obtain ⟨ys, hys⟩ : ∃ z, y.sc = z := ⟨_, rfl⟩
          obtain ⟨xi, hxi⟩ : ∃ z, x.id = z := ⟨_, rfl⟩
          obtain ⟨yi, hyi⟩ : ∃ z, y.id = z := ⟨_, rfl⟩
          rw [hxs] at xc2 HTK HSK
          rw [hxi] at xc0 HTK HSK
          rw [hys] at z2 HTK HSK
          rw [hyi] at z0 HTK HSK
          clear hxs hys hxi hyi
          by_cases c1 : xs < ys
          · have HTK := Lib.hid (HTK.out (.inl c1))
            clear HSK
            go_quiet (fail)
            go_wp2
            exact ⟨⟨k + 1, k, by go_num, rfl, by omega, below_drewN HB3.out _, by have h := HTK.out; rw [← HST.out] at h; exact h⟩, by simp [intOf]; omega⟩
          · by_cases c2 : xs = ys
            · have c3 : (xs == ys) = true := by rw [c2]; simp
              by_cases c4 : xi < yi
              · have HTK := Lib.hid (HTK.out (.inr ⟨c2, c4⟩))
                clear HSK c2
                go_quiet (fail)
                go_wp2
                exact ⟨⟨k + 1, k, by go_num, rfl, by omega, below_drewN HB3.out _, by have h := HTK.out; rw [← HST.out] at h; exact h⟩, by simp [intOf]; omega⟩
              · have HSK := Lib.hid (HSK.out (by omega))
                clear HTK c2
                go_quiet (fail)
                go_wp2
                exact ⟨⟨k + 1, _, by go_num, rfl, by omega, below_drewN HB3.out _, by have h := HSK.out; rw [← HST.out] at h; exact h⟩, by simp [intOf]; omega⟩
            · have c3 : (xs == ys) = false := by simp [c2]
              have HSK := Lib.hid (HSK.out (by omega))
              clear HTK c2
              go_quiet (fail)
              go_wp2
              exact ⟨⟨k + 1, _, by go_num, rfl, by omega, below_drewN HB3.out _, by have h := HSK.out; rw [← HST.out] at h; exact h⟩, by simp [intOf]; omega⟩
      · have hxw' : x.wants = false := by cases h : x.wants <;> simp_all
        have HSK := Lib.hid (Lead.skip HP.out (.inl hxw'))
        rw [hxw'] at xc3
        go_quiet (fail)
        go_wp2
        exact ⟨⟨k + 1, _, by go_num, rfl, by omega, below_drewN HB3.out _, by have h := HSK.out; rw [← HST.out] at h; exact h⟩, by simp [intOf]; omega⟩
    · obtain rfl : k = L := by omega
      go_wp2
      go_ret
      have h := HP.out
      rw [List.take_of_length_le (by rw [HL.out]; exact Nat.le_refl _)] at h
      exact ⟨t, rfl, h, HB.out⟩
end Go.Proofs.YtfgplghjgjnggaaDoor.PickR
