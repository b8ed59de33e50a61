/-
  log.Top over this seat's translation: the paths that stand there most often, in order.
  Conditions: a slice that reads as entries, each path no longer than a text may be.
-/
import Derived.Test.YtcpkikillmmjcaaGreatDoorLogTopS
namespace Go.Proofs.YtcpkikillmmjcaaGreatDoor.LogC
open Go.RowKit Go.Shelf LogP LineC RowsK Args LogTopP MapsL
set_option linter.unusedVariables false
set_option linter.unusedSimpArgs false

theorem elemS : RowsL.Elem Tryz.prog 43 9 (.string ByteArray.empty) 16 := ⟨Tryz.underlying43, by kernel_rfl, rfl, by decide⟩
/-- The state of the count: the map for lm, the paths for lr. -/
structure TS (w wr : World) (g mb B : Nat) (v : Value) (lm lr : List En) : Prop where
  map : MapIs wr Tryz.prog 9 mb (encC lm)
  cell : wr.cell? ⟨g, 0, none⟩ = some (.map (some mb))
  row : RowsL.Own wr B 9 v ((uniq lr).map Value.string)
  below : Below w.heap.size w wr
  lt : B ≤ wr.heap.size ∧ mb < B ∧ g < B ∧ g ≠ mb ∧ w.heap.size ≤ mb ∧ w.heap.size ≤ g
theorem TS.alloc {w wr : World} {g mb B : Nat} {v : Value} {lm lr : List En} (h : TS w wr g mb B v lm lr) (o : Obj) : TS w (wr.alloc o) g mb B v lm lr :=
  ⟨h.map.alloc o, (World.cell?_of_block (w := wr) (Below.heap_alloc _ _ _ (block_lt_of_cell h.cell))).trans h.cell, h.row.alloc o, h.below.alloc h.below.size o, by have := h.lt; simp; omega⟩
theorem TS.put {w wr w2 : World} {g mb B : Nat} {v : Value} {lm lm' lr : List En} (h : TS w wr g mb B v lm lr) (hm : MapIs w2 Tryz.prog 9 mb (encC lm')) (hg : wr.grownBy w2 (some mb)) : TS w w2 g mb B v lm' lr := by
  have hs := hg.size
  have hlt := h.lt
  refine ⟨hm, (World.cell?_of_block (w := wr) (hg.block g (block_lt_of_cell h.cell) (by simp; exact hlt.2.2.2.1))).trans h.cell, h.row.of_block fun k hk => hg.block k (h.row.lt k hk).2 ?_, h.below.grown hg h.below.size (fun k hk => by cases hk; exact hlt.2.2.2.2.1), by omega⟩
  intro e
  have := (h.row.lt k hk).1
  simp only [Option.some.injEq] at e
  omega
theorem TS.app {w wr w2 : World} {g mb B : Nat} {v v' : Value} {lm lr lr' : List En} (h : TS w wr g mb B v lm lr) (hown : RowsL.Own w2 B 9 v' ((uniq lr').map Value.string)) (hg : wr.grownBy w2 v.ownBlock) : TS w w2 g mb B v' lm lr' := by
  have hs := hg.size
  have hlt := h.lt
  refine ⟨h.map.kept hg fun e => ?_, (World.cell?_of_block (w := wr) (hg.block g (block_lt_of_cell h.cell) fun e => ?_)).trans h.cell, hown, h.below.grown hg h.below.size (fun k hk => ?_), by omega⟩
  · have := (h.row.lt mb e.symm).1; omega
  · have := (h.row.lt g e.symm).1; omega
  · have := (h.row.lt k hk).1; omega
def topE (l : List En) (m : Int) : Int := if 1 ≤ m ∧ m ≤ 100 then allE l else 1
theorem allE_zero {l : List En} (h : allE l = 0) : l.length ≤ 1000 := by
  unfold allE at h
  by_cases hl : 1000 < l.length
  · rw [if_pos hl] at h; cases h
  · omega
set_option maxRecDepth 100000 in
set_option maxHeartbeats 4000000 in
theorem top_bad (v : Value) (l : List En) (m : Int) (w : World) (h : At encE w v l) (hk : topE l m ≠ 0) :
    Calls Tryz.prog 15 #[v, .int .i64 m] w fun e w' => e = .returned (.tuple #[.slice none 0 0, errV (topE l m)]) ∧ Below w.heap.size w w' := by
  have HA := Lib.hid (all_any v l w h)
  have HH := Lib.hid hundred_any
  obtain ⟨ca, cc, hv, -⟩ := h
  subst hv
  generalize l.length = n at *
  by_cases hm : 1 ≤ m ∧ m ≤ 100
  · have hm2 : decide (1 ≤ m ∧ m ≤ 100) = true := decide_eq_true hm
    rw [show topE l m = allE l from if_pos hm] at hk ⊢
    generalize allE l = k at *
    have HE : Hid (errV k = .iface 52 (.int .i64 k)) := if_neg hk
    rw [HE.out] at HA ⊢
    have HM := Lib.hid hm2
    clear hk hm hm2
    go_enter Tryz.func15, Tryz.ntmps15
    go_wp2_with (first
      | (go_at_call 28; (with_reducible refine (HH.out _ _).mono ?_); rintro e w1 ⟨rfl, rfl⟩; rw [HM.out])
      | (go_at_call 27; (with_reducible refine HA.out.mono ?_); rintro e w1 ⟨rfl, hB1⟩; have HB1 := Lib.hid hB1; clear hB1)
      | fail)
    go_ret2
    exact ⟨rfl, HB1.out⟩
  · have hm2 : decide (1 ≤ m ∧ m ≤ 100) = false := decide_eq_false hm
    rw [show topE l m = 1 from if_neg hm]
    have HM := Lib.hid hm2
    clear hk hm hm2
    go_enter Tryz.func15, Tryz.ntmps15
    go_wp2_with (first
      | (go_at_call 28; (with_reducible refine (HH.out _ _).mono ?_); rintro e w1 ⟨rfl, rfl⟩; rw [HM.out])
      | fail)
    go_ret2
    exact ⟨rfl, Below.refl _ _⟩
set_option maxRecDepth 100000 in
set_option maxHeartbeats 8000000 in
theorem top_ok (v : Value) (l : List En) (m : Int) (w : World) (h : At encE w v l) (hp : ∀ e ∈ l, e.path.size ≤ maxLen) (hk : topE l m = 0) :
    Calls Tryz.prog 15 #[v, .int .i64 m] w fun e w' => ∃ a n c ps, e = .returned (.tuple #[.slice a n c, .nilIface]) ∧ IsTop l m.toNat ps ∧ n = ps.length ∧ n ≤ c ∧
      (∀ i (hi : i < ps.length), ∃ g, a = some ⟨g, 0, none⟩ ∧ g < w'.heap.size ∧ w'.cell? ⟨g, i, none⟩ = some (.string ps[i])) ∧ Below w.heap.size w w' := by
  have hm : 1 ≤ m ∧ m ≤ 100 := by
    by_cases hm : 1 ≤ m ∧ m ≤ 100
    · exact hm
    · rw [show topE l m = 1 from if_neg hm] at hk; cases hk
  have hall : allE l = 0 := by rw [show topE l m = allE l from if_pos hm] at hk; exact hk
  have hlen := allE_zero hall
  have HA := Lib.hid (all_any v l w h)
  rw [hall, show errV 0 = .nilIface from rfl] at HA
  have HH := Lib.hid (hundred_any m)
  rw [show decide (1 ≤ m ∧ m ≤ 100) = true from decide_eq_true hm] at HH
  have HAT := Lib.hid h
  obtain ⟨ca, cc, hv, -⟩ := id h
  obtain ⟨n, hn⟩ : ∃ n, l.length = n := ⟨_, rfl⟩
  rw [hn] at hv hlen
  subst hv
  have HN := Lib.hid hn
  have HPS := Lib.hid hp
  have HM := Lib.hid hm
  clear h hall hk hn hp hm
  have hmm := @run_makeMap Tryz.prog
  go_enter Tryz.func15, Tryz.ntmps15
  go_wp2_with (first
    | (go_at_call 28; (with_reducible refine (HH.out _).mono ?_); rintro e w1 ⟨rfl, rfl⟩)
    | (go_at_call 27; (with_reducible refine HA.out.mono ?_); rintro e w1 ⟨rfl, hB1⟩; have HB1 := Lib.hid hB1; clear hB1)
    | fail)
  have hT0 : TS w ((w1.alloc (.map #[] 0)).alloc (.cells #[.map (some w1.heap.size)] 65)) (w1.heap.size + 1) w1.heap.size (w1.heap.size + 2) (.slice none 0 0) [] [] := by
    have hz := HB1.out.size
    exact ⟨(MapIs.made w1 Tryz.prog 9).alloc _, by simp, RowsL.Own.nil _ _ _, (HB1.out.alloc hz _).alloc (by simp; omega) _, by simp; omega⟩
  have HT0 := Lib.hid hT0
  clear hT0
  generalize ((w1.alloc (.map #[] 0)).alloc (.cells #[.map (some w1.heap.size)] 65)) = w2 at *
  generalize w1.heap.size + 1 = g at *
  generalize w1.heap.size + 2 = B at *
  generalize w1.heap.size = mb at *
  clear HB1 HA HH
  have elemS := elemS
  go_loopw [8, 10, 23] (fun v8 v10 i wr => ∃ (k : Nat) (a8 : Option Addr) (n8 c8 : Nat), v8 = .slice a8 n8 c8 ∧ i = .int .i64 (k : Int) ∧ k ≤ n ∧ Hid (TS w wr g mb B v8 (l.take k) (l.take k))) (fun _ _ i _ => n - (intOf i).toNat)
  case atStart => exact ⟨0, none, 0, 0, rfl, rfl, by omega, HT0.out⟩
  case round =>
    clear HT0
    obtain ⟨k, a8, n8, c8, rfl, rfl, hk, HR⟩ := hrel
    have HT := HR
    clear HR
    by_cases hlt : k < n
    · have hlt2 : (k : Int) < (n : Int) := by omega
      have hk0 : (0 : Int) ≤ (k : Int) := by omega
      have hkl : k < l.length := by rw [HN.out]; exact hlt
      obtain ⟨b, off, rfl, hb, c0, c1, c2, c3, c4, c5⟩ := (at_cells HAT.out).2.2 k hkl
      have hB := HT.out.below
      have x0 := (hB.cell (p := ⟨b, off + k * 6, none⟩) hb).trans c0
      have x1 := (hB.cell (p := ⟨b, off + k * 6 + 1, none⟩) hb).trans c1
      have x2 := (hB.cell (p := ⟨b, off + k * 6 + 2, none⟩) hb).trans c2
      have x3 := (hB.cell (p := ⟨b, off + k * 6 + 3, none⟩) hb).trans c3
      have x4 := (hB.cell (p := ⟨b, off + k * 6 + 4, none⟩) hb).trans c4
      have x5 := (hB.cell (p := ⟨b, off + k * 6 + 5, none⟩) hb).trans c5
      have hsn : l.take (k + 1) = l.take k ++ [l[k]] := List.take_succ_eq_append_getElem hkl
      have hps := HPS.out _ (List.getElem_mem hkl)
      obtain ⟨en, hen⟩ : ∃ en, l[k] = en := ⟨_, rfl⟩
      rw [hen] at x0 x1 x2 x3 x4 x5 hps
      rw [hen] at hsn
      have HKEY := Lib.hid (Go.WideMaps.keyOf_string_mk Tryz.underlying9 hps)
      have HSN := Lib.hid hsn
      have HF1 := Lib.hid (find_encC (l.take k) en.path)
      have HF2 := Lib.hid (find_encC (l.take (k + 1)) en.path)
      have HPUT := Lib.hid (put_encC (l.take k) en)
      have hc2 : cnt (l.take (k + 1)) en.path = cnt (l.take k) en.path + 1 := by rw [hsn, cnt_snoc, if_pos rfl]
      have hcb := cnt_le (l.take k) en.path
      have hlk : (l.take k).length = k := by rw [List.length_take]; have := HN.out; omega
      have HEL : Hid ((encC (l.take k)).length < 9223372036854775807) := by have := encC_len (l.take k); show _ < _; omega
      have HUL : Hid (((uniq (l.take k)).map Value.string).length < 4398046511000) := by have := uniq_le (l.take k); rw [List.length_map]; show _ < _; omega
      have HFI := Lib.hid (first_iff (l.take k) en)
      rw [← hsn] at HFI
      obtain ⟨c, hc⟩ : ∃ c, cnt (l.take k) en.path = c := ⟨_, rfl⟩
      rw [hc2, hc] at HF2
      rw [hc] at HF1 HPUT hcb
      rw [← hsn] at HPUT
      rw [hc2, hc] at HFI
      have hc3 : c ≤ 1000 := by omega
      clear c0 c1 c2 c3 c4 c5 hen hsn hps hc hc2 hcb hB hlk
      go_upto_region 11 with fail
      have HT1 := Lib.hid (HT.out.alloc (.cells #[.int .i64 en.time, .int .i64 en.code, .int .i64 en.bytes, .int .i64 en.took, .string en.method, .string en.path] 23))
      have d5 : (wr.alloc (.cells #[.int .i64 en.time, .int .i64 en.code, .int .i64 en.bytes, .int .i64 en.took, .string en.method, .string en.path] 23)).cell? ⟨wr.heap.size, 5, none⟩ = some (.string en.path) := by simp
      have hgx : wr.heap.size ≠ mb := by have := HT.out.lt; omega
      generalize (wr.alloc (.cells #[.int .i64 en.time, .int .i64 en.code, .int .i64 en.bytes, .int .i64 en.took, .string en.method, .string en.path] 23)) = w3 at *
      clear x0 x1 x2 x3 x4 x5 HT
      generalize wr.heap.size = bx at *
      have HGX := Lib.hid hgx
      clear hgx
      have e0 := HT1.out.cell
      go_upto_region 12 with (first
        | (at_lookup; (with_reducible refine wpList_look rfl _ _ 65 rfl 9 3 keyedC Tryz.underlying65 _ (zeroC _) mb (encC (l.take k)) rfl HT1.out.map (.string en.path) (.string en.path.data.toList) rfl HKEY.out ?_); rw [HF1.out])
        | (at_mapUpdate; refine wpList_put rfl _ _ _ 65 rfl 9 3 keyedC Tryz.underlying65 mb (encC (l.take k)) rfl HT1.out.map HEL.out _ _ _ rfl rfl HKEY.out trivial ?_; intro w4 hm4 hg4; have HT2 : Hid (TS w w4 g mb B (.slice a8 n8 c8) (l.take (k + 1)) (l.take k)) := HT1.out.put (by rw [← HPUT.out]; exact hm4) hg4; have f5 := (World.cell?_of_block (w := w3) (hg4.block bx (block_lt_of_cell d5) (by simp; exact HGX.out))).trans d5; have f0 := HT2.out.cell; clear hm4 hg4 e0 d5 HT1)
        | fail)
      have HT3 := HT2
      clear HT2
      by_cases hc0 : c = 0
      · subst hc0
        have HNI : Hid (en.path ∉ uniq (l.take k)) := HFI.out.1 rfl
        have HUN : Hid (uniq (l.take (k + 1)) = uniq (l.take k) ++ [en.path]) := by show _ = _; rw [HSN.out, uniq_snoc, if_neg HNI.out]
        clear HFI
        go_wp2_with (first
          | (at_lookup; (with_reducible refine wpList_look rfl _ _ 65 rfl 9 3 keyedC Tryz.underlying65 _ (zeroC _) mb (encC (l.take (k + 1))) rfl HT3.out.map (.string en.path) (.string en.path.data.toList) rfl HKEY.out ?_); rw [HF2.out])
          | (at_builtin; refine RowsL.wpList_append1 elemS rfl _ _ rfl B (.slice a8 n8 c8) _ rfl (HT3.out.row.alloc _) w4.heap.size 1 _ rfl (RowsL.cell_new1 _ _ _) rfl HUL.out (RowsL.le_alloc _ HT3.out.lt.1) ?_; intro v5 w5 hown5 hB5 hg5 hat5; have HT5 : Hid (TS w w5 g mb B v5 (l.take (k + 1)) (l.take (k + 1))) := (HT3.out.alloc _).app (by rw [HUN.out, List.map_append]; exact hown5) hg5; obtain ⟨a9, c9, hv9, -⟩ := HT5.out.row.slice; rw [List.length_map] at hv9; subst hv9; clear hown5 hB5 hg5 hat5)
          | fail)
        go_roundw
        case rel => exact ⟨k + 1, _, _, _, rfl, by simp, by omega, HT5.out⟩
        case measure => simp [intOf]; omega
      · have hq : (((c + 1 : Nat) : Int) == 1) = false := by rw [beq_eq_false_iff_ne]; omega
        have HNI : Hid (en.path ∈ uniq (l.take k)) := by
          show _ ∈ _
          by_cases h : en.path ∈ uniq (l.take k)
          · exact h
          · have := HFI.out.2 h; omega
        have HUN : Hid (uniq (l.take (k + 1)) = uniq (l.take k)) := by show _ = _; rw [HSN.out, uniq_snoc, if_pos HNI.out]
        have HT5 : Hid (TS w w4 g mb B (.slice a8 n8 c8) (l.take (k + 1)) (l.take (k + 1))) := ⟨HT3.out.map, HT3.out.cell, by rw [HUN.out]; exact HT3.out.row, HT3.out.below, HT3.out.lt⟩
        clear HFI hc0
        go_wp2_with (first
          | (at_lookup; (with_reducible refine wpList_look rfl _ _ 65 rfl 9 3 keyedC Tryz.underlying65 _ (zeroC _) mb (encC (l.take (k + 1))) rfl HT3.out.map (.string en.path) (.string en.path.data.toList) rfl HKEY.out ?_); rw [HF2.out])
          | fail)
        go_roundw
        case rel => exact ⟨k + 1, _, _, _, rfl, by simp, by omega, HT5.out⟩
        case measure => simp [intOf]; omega
    · obtain rfl : k = n := by omega
      have hlt2 : ¬ (k : Int) < (k : Int) := by omega
      rw [show l.take k = l from by rw [← HN.out, List.take_length]] at HT
      have HROW := Lib.hid HT.out.row
      have hul := uniq_le l
      have hnn := HN.out
      obtain ⟨u, hu⟩ : ∃ u, (uniq l).length = u := ⟨_, rfl⟩
      by_cases hu0 : u = 0
      · obtain ⟨a9, c9, hv9, -, -, -, -⟩ := HROW.out.slice
        rw [List.length_map, hu, hu0] at hv9
        simp only [Value.slice.injEq] at hv9
        obtain ⟨rfl, rfl, rfl⟩ := hv9
        have hS := fun fv W => AnyF.slices_SortFunc_none (P := Tryz.prog) (ρ := Tryz.sortF_ren) { Tryz.sortF with } a8 c8 fv W
        change ∀ fv W, Calls Tryz.prog 31 _ _ _ at hS
        have HS := Lib.hid hS
        have hmin : min (0 : Int) m = 0 := by have := HM.out; omega
        have HUN : Hid (uniq l = []) := List.length_eq_zero_iff.1 (by omega)
        have HBE := Lib.hid HT.out.below
        clear hS hu hu0 hul hnn HT
        cases a8 with
        | none =>
          go_wp2_with (first
            | (go_at_call 31; (with_reducible refine (HS.out _ _).mono ?_); rintro e w5 ⟨rfl, rfl⟩)
            | fail)
          go_ret2
          exact ⟨_, _, _, [], rfl, ⟨[], by rw [HUN.out], List.Pairwise.nil, by simp⟩, rfl, Nat.zero_le _, fun i hi => by simp at hi, HBE.out⟩
        | some x =>
          go_wp2_with (first
            | (go_at_call 31; (with_reducible refine (HS.out _ _).mono ?_); rintro e w5 ⟨rfl, rfl⟩)
            | fail)
          go_ret2
          exact ⟨_, _, _, [], rfl, ⟨[], by rw [HUN.out], List.Pairwise.nil, by simp⟩, rfl, Nat.zero_le _, fun i hi => by simp at hi, HBE.out⟩
      · obtain ⟨gb, cap, hv9, hnc, hcm, hBg, hgs, hcells, hfz⟩ := HROW.out.slice1 u (by rw [List.length_map]; exact hu) (by omega)
        simp only [Value.slice.injEq] at hv9
        obtain ⟨rfl, rfl, rfl⟩ := hv9
        have hlt9 := HT.out.lt
        have hSP := sort_paths l (fun p hp => by
          have h0 := (mem_uniq l p).1 hp
          unfold cnt at h0
          obtain ⟨e, he⟩ := List.exists_mem_of_length_pos h0
          have h1 := List.mem_filter.1 he
          rw [← of_decide_eq_true h1.2]
          exact HPS.out e h1.1) (by omega) g mb gb c8 wr HT.out.cell HT.out.map (by omega) (by omega) hgs (fun i hi => by
          rw [hcells i (by omega), List.getElem?_map, List.getElem?_eq_getElem hi]; rfl) hfz
        rw [hu] at hSP
        have HSP := Lib.hid hSP
        obtain ⟨K, hK⟩ : ∃ K, min n8 m.toNat = K := ⟨_, rfl⟩
        have hmin : min (n8 : Int) m = (K : Int) := by have := HM.out; omega
        have hKu : K ≤ n8 := by omega
        have hKu2 : (K : Int) ≤ (c8 : Int) := by omega
        have hK0 : (0 : Int) ≤ (K : Int) := by omega
        have HU := Lib.hid (And.intro hu (And.intro hK hnc))
        have HBE := Lib.hid (And.intro HT.out.below hlt9)
        clear hSP hu hu0 hul hnn HT hcells hfz hlt9 hK
        go_wp2_with (first
          | (go_at_call 31; (with_reducible refine HSP.out.mono ?_); rintro e w5 ⟨rfl, qs, hq1, hq2, hq3, hq4, hq5⟩; have HQ := Lib.hid (And.intro hq1 (And.intro hq2 (And.intro hq3 (And.intro hq4 hq5)))); clear hq1 hq2 hq3 hq4 hq5)
          | fail)
        go_ret2
        obtain ⟨hq1, hq2, hq3, hq4, hq5⟩ := HQ.out
        obtain ⟨hu1, hu2, hu3⟩ := HU.out
        have hql : qs.length = n8 := by rw [hq1.length_eq, hu1]
        refine ⟨_, _, _, qs.take m.toNat, rfl, ⟨qs, hq1, hq2, rfl⟩, ?_, by omega, fun i hi => ⟨gb, rfl, hq5, ?_⟩, HBE.out.1.trans (hq4 _ (by have := HBE.out.2; omega))⟩
        · rw [List.length_take, hql]; omega
        · rw [List.length_take] at hi
          rw [hq3 i (by omega), List.getElem_take]
end Go.Proofs.YtcpkikillmmjcaaGreatDoor.LogC
