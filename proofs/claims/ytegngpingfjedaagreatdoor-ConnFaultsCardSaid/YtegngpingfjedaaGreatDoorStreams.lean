/-
  Contracts of stream.Streams over this seat's translation: New, Many, Open, State, Put, Last; the states as an association list.
  Conditions: the receiver's two cells, the map's block.
-/
import Derived.Test.YtegngpingfjedaaGreatDoorStream
import Derived.Test.YtegngpingfjedaaGreatDoorMaps
import Derived.Lib.Hide
import Derived.Test.YtegngpingfjedaaGreatDoorMod
namespace Go.Proofs.YtegngpingfjedaaGreatDoor.StreamsC
open Go.RowKit StreamC MapsL ModL
set_option linter.unusedSimpArgs false
set_option linter.unusedVariables false

theorem law : Maps.Keyed Tryz.prog 3 := Maps.int_keyed Tryz.underlying3
theorem zeroE (w : World) : (zeroValue 3).run Tryz.prog w = .ok (.int .i64 0) w := by kernel_rfl

/-- The streams that were seen, with their states. -/
def encS (l : List (Int × Int)) : AL := l.map fun p => (.int .i64 p.1, .int .i64 p.2)
/-- The receiver: a block of two cells, and the map's block. -/
structure IsStreams (w : World) (b m : Nat) (l : List (Int × Int)) (last : Int) : Prop where
  map : MapIs w Tryz.prog 3 m (encS l)
  c0 : w.cell? ⟨b, 0, none⟩ = some (.map (some m))
  c1 : w.cell? ⟨b, 1, none⟩ = some (.int .i64 last)
  f0 : w.frozen? ⟨b, 0, none⟩ = false
  f1 : w.frozen? ⟨b, 1, none⟩ = false
  ne : b ≠ m
def liveN (l : List (Int × Int)) : Nat := (l.filter fun p => liveB p.2).length

theorem IsStreams.below {w w' : World} {b m : Nat} {l : List (Int × Int)} {last : Int} (h : IsStreams w b m l last) {B : Nat} (hB : Below B w w') (h1 : b < B) (h2 : m < B) : IsStreams w' b m l last :=
  ⟨h.map.below hB h2, (hB.cell (p := ⟨b, 0, none⟩) h1).trans h.c0, (hB.cell (p := ⟨b, 1, none⟩) h1).trans h.c1, (hB.frozen (p := ⟨b, 0, none⟩) h1).trans h.f0, (hB.frozen (p := ⟨b, 1, none⟩) h1).trans h.f1, h.ne⟩

theorem IsStreams.mod {w w' : World} {b m : Nat} {l : List (Int × Int)} {last : Int} (h : IsStreams w b m l last) {T : Nat → Prop} (hM : Mod T w w') (h1 : ¬ T b) (h2 : ¬ T m) : IsStreams w' b m l last := by
  have hb : b < w.heap.size := block_lt_of_cell h.c0
  have hm := h.map.lt
  exact ⟨h.map.of_block (hM.block m hm h2), (hM.cell (p := ⟨b, 0, none⟩) hb h1).trans h.c0, (hM.cell (p := ⟨b, 1, none⟩) hb h1).trans h.c1, (hM.frozen (p := ⟨b, 0, none⟩) hb h1).trans h.f0, (hM.frozen (p := ⟨b, 1, none⟩) hb h1).trans h.f1, h.ne⟩

theorem IsStreams.drew {w : World} {b m : Nat} {l : List (Int × Int)} {last : Int} (h : IsStreams w b m l last) : IsStreams w.drew b m l last := ⟨h.map.drew, h.c0, h.c1, h.f0, h.f1, h.ne⟩
set_option maxRecDepth 100000 in
theorem new_any (w : World) : Calls Tryz.prog 52 #[] w fun e w' => e = .returned (.pointer (some ⟨w.heap.size + 1, 0, none⟩)) ∧ IsStreams w' (w.heap.size + 1) w.heap.size [] 0 ∧ Below w.heap.size w w' ∧ w'.heap.size = w.heap.size + 2 := by
  have hmm := @run_makeMap Tryz.prog
  go_enter Tryz.func52, Tryz.ntmps52
  go_wp2
  go_ret
  exact ⟨rfl, ⟨(MapIs.made w _ _).alloc _, by simp, by simp, by simp, by simp, by omega⟩, ((Below.refl _ _).alloc (Nat.le_refl _) _).alloc (by simp) _, by simp⟩
set_option maxRecDepth 100000 in
theorem last_any {b m : Nat} {l : List (Int × Int)} {last : Int} {w : World} (h : IsStreams w b m l last) : Calls Tryz.prog 61 #[.pointer (some ⟨b, 0, none⟩)] w fun e w' => e = .returned (.int .i64 last) ∧ w = w' := by
  have h1 := h.c1
  clear h
  go_enter Tryz.func61, Tryz.ntmps61
  go_wp2
  go_ret
  exact ⟨rfl, rfl⟩
theorem encS_mem {l : List (Int × Int)} {x : Int} {c : Value} (h : (Lit.int .i64 x, c) ∈ encS l) : ∃ v, c = .int .i64 v ∧ (x, v) ∈ l := by
  obtain ⟨p, hp, e⟩ := List.mem_map.1 h
  cases e
  exact ⟨p.2, rfl, hp⟩
/-- Is an entry live? -/
def liveV : Lit × Value → Bool := fun p => match p.2 with | .int _ v => liveB v | _ => false
theorem liveN_eq (l : List (Int × Int)) : liveN l = ((encS l).filter liveV).length := by
  simp only [liveN, encS, List.filter_map, List.length_map]
  rfl
set_option maxHeartbeats 2000000 in
set_option maxRecDepth 100000 in
theorem many_any {b m : Nat} {l : List (Int × Int)} {last : Int} {w : World} (h : IsStreams w b m l last) (hl : l.length < 4294967296) : Calls Tryz.prog 174 #[.pointer (some ⟨b, 0, none⟩)] w fun e w' => e = .returned (.int .i64 (liveN l)) ∧ Below w.heap.size w w' := by
  have h0 := h.c0
  have hmap := h.map
  have hmlt := hmap.lt
  have HK := Lib.hid hmap.1
  clear h
  go_enter Tryz.func174, Tryz.ntmps174
  go_wp2_with (first
    | (at_range; refine wpList_range rfl _ 152 rfl 3 3 law Tryz.underlying152 m (encS l) rfl hmap ?_; intro w0 left hl1 hl2 hrg0 hg0 hs0)
    | go_in)
  go_frame
  have HL1 := Lib.hid hl1
  have HL2 := Lib.hid hl2
  clear hl1 hl2
  go_loopw [3, 5] (fun n _ wr => ∃ (left : Lit → Bool) (cnt : Nat) (k : Nat), n = .int .i64 k ∧ k ≤ l.length ∧ Ranges wr Tryz.prog 3 m w.heap.size (encS l) left cnt ∧ Hid (k + ((encS l).filter fun x => left x.1 && liveV x).length = liveN l) ∧ Below w.heap.size w wr)
    (fun _ _ wr => wr.rangeLeft m w.heap.size)
  case atStart =>
    refine ⟨left, _, 0, rfl, by omega, hrg0, ?_, (Below.refl _ _).grown hg0 (Nat.le_refl _) (by simp)⟩
    show 0 + _ = _
    rw [Nat.zero_add, liveN_eq]
    congr 1
    apply List.filter_congr
    intro p hp
    rw [HL1.out p hp, Bool.true_and]
  case round =>
    obtain ⟨left, cnt, k, rfl, hk, hrg, HN, hB⟩ := hrel
    go_wp2_with (first
      | (at_next; refine wpList_next_int rfl _ rfl 3 .i64 law Tryz.underlying3 m w.heap.size (encS l) _ _ rfl hrg ?_ ?_)
      | go_in)
    · intro hd
      have e : k = liveN l := by
        have h := HN.out
        rw [List.filter_eq_nil_iff.2 (by intro p _; simp [hd p.1])] at h
        simpa using h
      have HE := Lib.hid e
      clear hd e
      go_wp2
      go_ret
      exact ⟨by rw [HE.out]; rfl, hB⟩
    · intro x c w1 cnt1 hwx hmem hlx hrg1 hlt hg1 hs1 hen
      obtain ⟨v, rfl, hv⟩ := encS_mem hmem
      have hst := rem_step liveV HK.out hmem hlx
      have hB1 := hB.grown hg1 hB.size (fun j hj => by cases hj; exact Nat.le_refl _)
      have hkN : k + (if liveB v then 1 else 0) ≤ l.length := by
        have h := HN.out
        have h2 : liveN l ≤ l.length := List.length_filter_le _ _
        have h3 : liveV (Lit.int .i64 x, Value.int .i64 v) = liveB v := rfl
        rw [hst, h3] at h
        omega
      have HST := Lib.hid hst
      have HRG := Lib.hid hrg1
      clear hst hg1 hs1 hrg1 hmem hlx
      by_cases hb : liveB v = true
      · rw [if_pos hb] at hkN
        go_wp2_with (first | (go_at_call 96; refine (live_any _ _).mono ?_; rw [hb]; rintro e w' ⟨rfl, rfl⟩) | go_in)
        go_roundw
        case rel => exact ⟨_, cnt1, k + 1, by go_num, hkN, HRG.out, by
          have h := HN.out
          have h3 : liveV (Lit.int .i64 x, Value.int .i64 v) = true := hb
          rw [HST.out, if_pos h3] at h
          show _ + _ = _
          omega, hB1⟩
        case measure => rw [HRG.out.left_eq, hrg.left_eq]; exact hlt
      · simp only [Bool.not_eq_true] at hb
        go_wp2_with (first | (go_at_call 96; refine (live_any _ _).mono ?_; rw [hb]; rintro e w' ⟨rfl, rfl⟩) | go_in)
        go_roundw
        case rel => exact ⟨_, cnt1, k, rfl, hk, HRG.out, by
          have h := HN.out
          have h3 : ¬ liveV (Lit.int .i64 x, Value.int .i64 v) = true := by show ¬ liveB v = true; rw [hb]; simp
          rw [HST.out, if_neg h3] at h
          exact h, hB1⟩
        case measure => rw [HRG.out.left_eq, hrg.left_eq]; exact hlt
/-- The state that is kept for a number. -/
def lookS (l : List (Int × Int)) (id : Int) : Option Int := (l.find? fun p => p.1 == id).map (·.2)
theorem find_encS (l : List (Int × Int)) (id : Int) : find (encS l) (.int .i64 id) = (lookS l id).map (Value.int .i64) := by
  induction l with
  | nil => rfl
  | cons p l ih =>
    have e : encS (p :: l) = (.int .i64 p.1, .int .i64 p.2) :: encS l := rfl
    rw [e, find_cons, ih]
    simp only [lookS, List.find?_cons, Lit.sameKey, true_and]
    by_cases h : p.1 = id
    · simp [h]
    · have h2 : (p.1 == id) = false := by simpa using h
      simp only [h2, h, decide_false, Bool.false_eq_true, if_false]
/-- May a number have been seen? -/
def okId (last id : Int) : Prop := id % 2 = 1 ∧ 1 ≤ id ∧ id ≤ last
instance (last id : Int) : Decidable (okId last id) := inferInstanceAs (Decidable (_ ∧ _))
def stateF (l : List (Int × Int)) (last id : Int) : Int := if okId last id then (lookS l id).getD 4 else 0
set_option maxHeartbeats 2000000 in
set_option maxRecDepth 100000 in
theorem state_any {b m : Nat} {l : List (Int × Int)} {last : Int} {w : World} (h : IsStreams w b m l last) (id : Int) (hid : -9223372036854775808 ≤ id ∧ id ≤ 9223372036854775807) :
    Calls Tryz.prog 49 #[.pointer (some ⟨b, 0, none⟩), .int .i64 id] w fun e w' => e = .returned (.int .i64 (stateF l last id)) ∧ w = w' := by
  obtain ⟨hid1, hid2⟩ := hid
  have h0 := h.c0
  have h1 := h.c1
  have hmap := h.map
  have hkey := Maps.keyOf_int_mk Tryz.underlying3 (WalkArith.wf_i64 ⟨hid1, hid2⟩)
  have HKEY := Lib.hid hkey
  clear hkey h
  by_cases g1 : 1 ≤ id
  · by_cases g2 : id % 2 = 1
    · have g2' : (id % 2 != 1) = false := by simp [g2]
      by_cases g3 : id ≤ last
      · have HF : Hid (stateF l last id = (lookS l id).getD 4) := by show _ = _; unfold stateF; rw [if_pos ⟨g2, g1, g3⟩]
        clear g2
        cases hf : lookS l id with
        | none =>
          have hff : find (encS l) (.int .i64 id) = none := by rw [find_encS, hf]; rfl
          rw [hf] at HF
          clear hf
          go_enter Tryz.func49, Tryz.ntmps49
          go_wp2_with (first
            | (at_lookup; refine wpList_look_ok rfl _ _ 152 rfl 3 3 law Tryz.underlying152 _ (zeroE _) m (encS l) rfl hmap _ _ rfl HKEY.out ?_; rw [hff])
            | go_in)
          go_ret
          exact ⟨by rw [HF.out]; rfl, rfl⟩
        | some x =>
          have hff : find (encS l) (.int .i64 id) = some (.int .i64 x) := by rw [find_encS, hf]; rfl
          rw [hf] at HF
          clear hf
          go_enter Tryz.func49, Tryz.ntmps49
          go_wp2_with (first
            | (at_lookup; refine wpList_look_ok rfl _ _ 152 rfl 3 3 law Tryz.underlying152 _ (zeroE _) m (encS l) rfl hmap _ _ rfl HKEY.out ?_; rw [hff])
            | go_in)
          go_ret
          exact ⟨by rw [HF.out]; rfl, rfl⟩
      · have HF : Hid (stateF l last id = 0) := by show _ = _; unfold stateF; rw [if_neg (fun h => g3 h.2.2)]
        clear g2
        go_enter Tryz.func49, Tryz.ntmps49
        go_wp2
        go_ret
        exact ⟨by rw [HF.out]; rfl, rfl⟩
    · have g2' : (id % 2 != 1) = true := by simp [g2]
      have HF : Hid (stateF l last id = 0) := by show _ = _; unfold stateF; rw [if_neg (fun h => g2 h.1)]
      clear g2
      go_enter Tryz.func49, Tryz.ntmps49
      go_wp2
      go_ret
      exact ⟨by rw [HF.out]; rfl, rfl⟩
  · have HF : Hid (stateF l last id = 0) := by show _ = _; unfold stateF; rw [if_neg (fun h => g1 h.2.1)]
    go_enter Tryz.func49, Tryz.ntmps49
    go_wp2
    all_goals go_ret
    all_goals exact ⟨by rw [HF.out]; rfl, rfl⟩
/-- One state put. -/
def putS (l : List (Int × Int)) (id x : Int) : List (Int × Int) := match l with
  | [] => [(id, x)]
  | p :: r => if p.1 == id then (id, x) :: r else p :: putS r id x
theorem putA_encS (l : List (Int × Int)) (id x : Int) : putA (encS l) (.int .i64 id) (.int .i64 x) = encS (putS l id x) := by
  induction l with
  | nil => rfl
  | cons p l ih =>
    have e : encS (p :: l) = (.int .i64 p.1, .int .i64 p.2) :: encS l := rfl
    rw [e, putA, putS, ih]
    by_cases h : p.1 = id
    · simp [Lit.sameKey, h, encS]
    · have h2 : (p.1 == id) = false := by simpa using h
      simp [Lit.sameKey, h, h2, encS]
/-- What opening comes to: the code, whether for all, the states, the last. -/
def openBad (last id : Int) : Prop := ¬ (id % 2 = 1 ∧ last < id)
set_option maxHeartbeats 2000000 in
set_option maxRecDepth 100000 in
theorem open_bad {b m : Nat} {l : List (Int × Int)} {last : Int} {w : World} (h : IsStreams w b m l last) (hla : 0 ≤ last) (id : Int) (hid : -9223372036854775808 ≤ id ∧ id ≤ 9223372036854775807) (hb : openBad last id) :
    Calls Tryz.prog 155 #[.pointer (some ⟨b, 0, none⟩), .int .i64 id] w fun e w' => e = .returned (.tuple #[.int .i64 1, .bool true]) ∧ w = w' := by
  obtain ⟨hid1, hid2⟩ := hid
  have h1 := h.c1
  clear h
  unfold openBad at hb
  by_cases g1 : 0 ≤ id
  · by_cases g2 : id % 2 = 1
    · have g2' : (id % 2 != 1) = false := by simp [g2]
      have g3 : id ≤ last := by omega
      clear g2 hb
      go_enter Tryz.func155, Tryz.ntmps155
      go_wp2
      go_ret2
      exact ⟨rfl, rfl⟩
    · have g2' : (id % 2 != 1) = true := by simp [g2]
      clear g2 hb
      go_enter Tryz.func155, Tryz.ntmps155
      go_wp2
      go_ret2
      exact ⟨rfl, rfl⟩
  · have g3 : id ≤ last := by omega
    clear hb
    go_enter Tryz.func155, Tryz.ntmps155
    go_wp2
    all_goals go_ret2
    all_goals exact ⟨rfl, rfl⟩
theorem IsStreams.stored {b m : Nat} {l : List (Int × Int)} {last : Int} {w : World} (h : IsStreams w b m l last) (id : Int) : IsStreams (w.setCell ⟨b, 1, none⟩ (.int .i64 id)) b m l id :=
  ⟨h.map.setCell _ _ h.ne, by rw [World.cell?_setCell_other _ _ _ _ (by simp)]; exact h.c0, World.cell?_setCell_same _ _ _ h.c1, by simp [go_sem, h.f0], by simp [go_sem, h.f1], h.ne⟩
theorem encS_len (l : List (Int × Int)) : (encS l).length = l.length := by simp [encS]
theorem IsStreams.lt {b m : Nat} {l : List (Int × Int)} {last : Int} {w : World} (h : IsStreams w b m l last) : b < w.heap.size ∧ m < w.heap.size := ⟨block_lt_of_cell h.c0, h.map.lt⟩
theorem IsStreams.put {b m : Nat} {l : List (Int × Int)} {last : Int} {w w' : World} (h : IsStreams w b m l last) (id x : Int) (hm : MapIs w' Tryz.prog 3 m (putA (encS l) (.int .i64 id) (.int .i64 x))) (hg : w.grownBy w' (some m)) : IsStreams w' b m (putS l id x) last := by
  have hb := h.lt.1
  have hne : some b ≠ some m := by simp; exact h.ne
  have hbl := hg.block b hb (by simp; exact h.ne)
  exact ⟨by rw [← putA_encS]; exact hm, (World.cell?_of_block (a := ⟨b, 0, none⟩) hbl).trans h.c0, (World.cell?_of_block (a := ⟨b, 1, none⟩) hbl).trans h.c1, (World.frozen?_of_block (a := ⟨b, 0, none⟩) hbl).trans h.f0, (World.frozen?_of_block (a := ⟨b, 1, none⟩) hbl).trans h.f1, h.ne⟩
set_option maxHeartbeats 4000000 in
set_option maxRecDepth 100000 in
theorem open_full {b m : Nat} {l : List (Int × Int)} {last : Int} {w : World} (h : IsStreams w b m l last) (hl : l.length < 4294967296) (hla : 0 ≤ last) (id : Int) (hid : -9223372036854775808 ≤ id ∧ id ≤ 9223372036854775807) (hb : ¬ openBad last id) (hn : 16 ≤ liveN l) :
    Calls Tryz.prog 155 #[.pointer (some ⟨b, 0, none⟩), .int .i64 id] w fun e w' => e = .returned (.tuple #[.int .i64 7, .bool false]) ∧ IsStreams w' b m l id ∧ Mod (fun k => k = b ∨ k = m) w w' := by
  obtain ⟨hid1, hid2⟩ := hid
  have h1 := h.c1
  have hf := h.f1
  have HS := Lib.hid h
  have hb' : id % 2 = 1 ∧ last < id := by simpa [openBad] using hb
  obtain ⟨g2, g3⟩ := hb'
  have g2' : (id % 2 != 1) = false := by simp [g2]
  have hnl : (liveN l : Nat) ≤ l.length := List.length_filter_le _ _
  clear h g2 hb
  go_enter Tryz.func155, Tryz.ntmps155
  go_wp2_with (go_at_call 174; refine (many_any (HS.out.stored id) hl).mono ?_; rintro e w' ⟨rfl, hB⟩)
  go_ret2
  have hlt := HS.out.lt
  refine ⟨rfl, (HS.out.stored id).below hB (by simp; exact hlt.1) (by simp; exact hlt.2), ((Mod.refl _ w).setCell (by intro _; exact .inl rfl) _).below hB (by intro k hk h2; simp at h2; omega)⟩
set_option maxHeartbeats 4000000 in
set_option maxRecDepth 100000 in
theorem open_ok {b m : Nat} {l : List (Int × Int)} {last : Int} {w : World} (h : IsStreams w b m l last) (hl : l.length < 4294967296) (hla : 0 ≤ last) (id : Int) (hid : -9223372036854775808 ≤ id ∧ id ≤ 9223372036854775807) (hb : ¬ openBad last id) (hn : liveN l < 16) :
    Calls Tryz.prog 155 #[.pointer (some ⟨b, 0, none⟩), .int .i64 id] w fun e w' => e = .returned (.tuple #[.int .i64 0, .bool false]) ∧ IsStreams w' b m (putS l id 1) id ∧ Mod (fun k => k = b ∨ k = m) w w' := by
  obtain ⟨hid1, hid2⟩ := hid
  have h1 := h.c1
  have hf := h.f1
  have HS := Lib.hid h
  have hb' : id % 2 = 1 ∧ last < id := by simpa [openBad] using hb
  obtain ⟨g2, g3⟩ := hb'
  have g2' : (id % 2 != 1) = false := by simp [g2]
  have hkey := Maps.keyOf_int_mk Tryz.underlying3 (WalkArith.wf_i64 ⟨hid1, hid2⟩)
  have HKEY := Lib.hid hkey
  have hlt := h.lt
  clear h g2 hb hkey
  go_enter Tryz.func155, Tryz.ntmps155
  go_wp2_with (first
    | (go_at_call 174; refine (many_any (HS.out.stored id) hl).mono ?_; rintro e w' ⟨rfl, hB⟩; have HS1 := Lib.hid ((HS.out.stored id).below hB (by simp; exact hlt.1) (by simp; exact hlt.2)); have HM1 := Lib.hid (((Mod.refl (fun k => k = b ∨ k = m) w).setCell (p := ⟨b, 1, none⟩) (by intro _; exact .inl rfl) (.int .i64 id)).below hB (by intro k hk h2; simp at h2; omega)); have hc0 := HS1.out.c0; clear hB)
    | (at_mapUpdate; refine wpList_put rfl _ _ _ 152 rfl 3 3 law Tryz.underlying152 m (encS l) rfl HS1.out.map (by rw [encS_len]; omega) _ _ _ rfl rfl HKEY.out trivial ?_; intro w2 hm2 hg2)
    | go_in)
  go_ret2
  exact ⟨rfl, HS1.out.put id 1 hm2 hg2, HM1.out.grown hg2 (by intro k hk _; cases hk; exact .inr rfl)⟩
set_option maxHeartbeats 4000000 in
set_option maxRecDepth 100000 in
theorem put_yes {b m : Nat} {l : List (Int × Int)} {last : Int} {w : World} (h : IsStreams w b m l last) (hl : l.length < 4294967296) (id st : Int) (hid : -9223372036854775808 ≤ id ∧ id ≤ 9223372036854775807) (hs : stateF l last id ≠ 0) (hst : 1 ≤ st ∧ st ≤ 4) :
    Calls Tryz.prog 58 #[.pointer (some ⟨b, 0, none⟩), .int .i64 id, .int .i64 st] w fun e w' => e = .returned (.tuple #[]) ∧ IsStreams w' b m (putS l id st) last ∧ Mod (fun k => k = m) w w' := by
  have HS := Lib.hid h
  have hc0 := h.c0
  have hkey := Maps.keyOf_int_mk Tryz.underlying3 (WalkArith.wf_i64 hid)
  have HKEY := Lib.hid hkey
  have h1 : (stateF l last id != 0) = true := by simpa using hs
  have P := Lib.hid (state_any h id hid)
  clear h hkey hs
  generalize stateF l last id = sf at *
  have hlb : liveB st = true ∨ (liveB st = false ∧ (st == 4) = true) := by
    obtain ⟨a, b⟩ := hst
    obtain rfl | rfl | rfl | rfl : st = 1 ∨ st = 2 ∨ st = 3 ∨ st = 4 := by omega
    all_goals decide
  clear hst
  rcases hlb with hlb | ⟨hlb, h4⟩
  all_goals
    go_enter Tryz.func58, Tryz.ntmps58
    go_wp2_with (first
      | (go_at_call 49; refine P.out.mono ?_; rintro e w' ⟨rfl, rfl⟩)
      | (go_at_call 96; refine (live_any _ _).mono ?_; rw [hlb]; rintro e w' ⟨rfl, rfl⟩)
      | (at_mapUpdate; refine wpList_put rfl _ _ _ 152 rfl 3 3 law Tryz.underlying152 m (encS l) rfl HS.out.map (by rw [encS_len]; omega) _ _ _ rfl rfl HKEY.out trivial ?_; intro w2 hm2 hg2)
      | go_in)
    go_end0
    exact ⟨rfl, HS.out.put id st hm2 hg2, (Mod.refl _ _).grown hg2 (by intro k hk _; cases hk; rfl)⟩
set_option maxHeartbeats 4000000 in
set_option maxRecDepth 100000 in
theorem put_no {b m : Nat} {l : List (Int × Int)} {last : Int} {w : World} (h : IsStreams w b m l last) (id st : Int) (hid : -9223372036854775808 ≤ id ∧ id ≤ 9223372036854775807) (hs : stateF l last id = 0 ∨ st < 1 ∨ 4 < st) :
    Calls Tryz.prog 58 #[.pointer (some ⟨b, 0, none⟩), .int .i64 id, .int .i64 st] w fun e w' => e = .returned (.tuple #[]) ∧ w = w' := by
  have P := Lib.hid (state_any h id hid)
  clear h
  by_cases h0 : stateF l last id = 0
  · have h1 : (stateF l last id != 0) = false := by simpa using h0
    clear hs h0
    generalize stateF l last id = sf at *
    go_enter Tryz.func58, Tryz.ntmps58
    go_wp2_with (first
      | (go_at_call 49; refine P.out.mono ?_; rintro e w' ⟨rfl, rfl⟩)
      | go_in)
    go_end0
    exact ⟨rfl, rfl⟩
  · have h1 : (stateF l last id != 0) = true := by simpa using h0
    have hlb : liveB st = false ∧ (st == 4) = false := by
      simp only [liveB, Bool.or_eq_false_iff, beq_eq_false_iff_ne]; omega
    obtain ⟨hlb, h4⟩ := hlb
    clear hs h0
    generalize stateF l last id = sf at *
    go_enter Tryz.func58, Tryz.ntmps58
    go_wp2_with (first
      | (go_at_call 49; refine P.out.mono ?_; rintro e w' ⟨rfl, rfl⟩)
      | (go_at_call 96; refine (live_any _ _).mono ?_; rw [hlb]; rintro e w' ⟨rfl, rfl⟩)
      | go_in)
    go_end0
    exact ⟨rfl, rfl⟩
end Go.Proofs.YtegngpingfjedaaGreatDoor.StreamsC
