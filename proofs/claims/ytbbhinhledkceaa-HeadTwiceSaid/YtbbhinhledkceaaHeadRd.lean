/-
  head's reader over this seat's translation: num and text, of any bytes, in any state.
  Conditions: where the bytes lie, and how many.
-/
import Derived.Test.YtbbhinhledkceaaHeadRead
import Derived.Test.YtbbhinhledkceaaMod
namespace Go.Proofs.Ytbbhinhledkceaa.HeadC
open Go.RowKit CodeC WireC BA ModL
set_option linter.unusedVariables false
set_option linter.unusedSimpArgs false

theorem bytesAt_of_block {w w' : World} {v : Value} {l : List Int} (h : BytesAt w v l) (hb : ∀ g, v.ownBlock = some g → w'.heap[g]? = w.heap[g]?) (hs : w.heap.size ≤ w'.heap.size) : BytesAt w' v l := by
  obtain ⟨a, cap, rfl, h1, h2, h3, h4⟩ := h
  refine ⟨a, cap, rfl, h1, h2, h3, fun i hi => ?_⟩
  obtain ⟨b, off, rfl, hlt, hc⟩ := h4 i hi
  exact ⟨b, off, rfl, by omega, (World.cell?_of_block (a := ⟨b, off + i, none⟩) (hb b rfl)).trans hc⟩
theorem bytes_from {w : World} {a : Option Addr} {L cap : Nat} {b : List Int} (h : BytesAt w (.slice a L cap) b) (q : Nat) (hq : q ≤ b.length) : BytesAt w (.slice (cutB a q cap) (L - q) (cap - q)) (b.drop q) := by
  obtain ⟨a0, c0, e, h1, h2, h3, h4⟩ := h.open
  simp only [Value.slice.injEq] at e
  obtain ⟨rfl, rfl, rfl⟩ := e
  by_cases hb : b = []
  · subst hb
    have hq0 : q = 0 := by simpa using hq
    subst hq0
    refine ⟨cutB a 0 cap, cap, by simp, by simp [BytesL.valB], by omega, ?_, by simp [BytesL.valB]⟩
    unfold cutB
    cases a with
    | none => intro _; exact h3 rfl
    | some x => split <;> simp
  · obtain ⟨bb, off, rfl, -⟩ := h4 0 (List.length_pos_iff.2 hb)
    have := bytes_cutB h q (b.length - q) (by omega) (by omega)
    rwa [List.take_of_length_le (by rw [List.length_drop]; omega)] at this
theorem bytes_set {w : World} {v : Value} {l : List Int} {p : Addr} {u : Value} (h : BytesAt w v l) (hne : v.ownBlock ≠ some p.block) : BytesAt (w.setCell p u) v l := by
  obtain ⟨a, cap, rfl, h1, h2, h3, h4⟩ := h
  refine ⟨a, cap, rfl, h1, h2, h3, fun i hi => ?_⟩
  obtain ⟨b, off, rfl, hlt, hc⟩ := h4 i hi
  refine ⟨b, off, rfl, by simpa using hlt, (World.cell?_setCell_other _ _ _ _ ?_).trans hc⟩
  intro e
  exact hne (by rw [e]; rfl)
/-- A reader at block r: what is left of the bytes (in block B), the fault. -/
structure IsRd (w : World) (r : Nat) (B : Option Nat) (b : List Int) (e : Nat) : Prop where
  c0 : ∃ v, w.cell? ⟨r, 0, none⟩ = some v ∧ BytesAt w v b ∧ v.ownBlock = B
  c1 : w.cell? ⟨r, 1, none⟩ = some (errV e)
  f0 : w.frozen? ⟨r, 0, none⟩ = false
  f1 : w.frozen? ⟨r, 1, none⟩ = false
  ne : B ≠ some r
  bd : ∀ z ∈ b, 0 ≤ z ∧ z ≤ 255
  ln : b.length ≤ 1099511627776
/-- A number read: it, what is left, the fault. -/
def numS (b : List Int) (e p : Nat) : Int × List Int × Nat := if e ≠ 0 then (0, b, e) else ((getS b p).1, b.drop (getS b p).2.1, (getS b p).2.2)
/-- A text read. -/
def textS (b : List Int) (e : Nat) : List UInt8 × List Int × Nat := if e ≠ 0 then ([], b, e) else ((rtS b).1, b.drop (rtS b).2.1, (rtS b).2.2)
theorem IsRd.lt {w : World} {r : Nat} {B : Option Nat} {b : List Int} {e : Nat} (h : IsRd w r B b e) : r < w.heap.size := block_lt_of_cell h.c1
theorem IsRd.of_block {w w' : World} {r : Nat} {B : Option Nat} {b : List Int} {e : Nat} (h : IsRd w r B b e) (hb : w'.heap[r]? = w.heap[r]?) (hB : ∀ k, B = some k → w'.heap[k]? = w.heap[k]?) (hs : w.heap.size ≤ w'.heap.size) : IsRd w' r B b e := by
  obtain ⟨⟨v, h0, h1, h2⟩, c1, f0, f1, ne, bd, ln⟩ := h
  exact ⟨⟨v, (World.cell?_of_block (a := ⟨r, 0, none⟩) hb).trans h0, bytesAt_of_block h1 (fun k hk => hB k (h2.symm.trans hk)) hs, h2⟩, (World.cell?_of_block (a := ⟨r, 1, none⟩) hb).trans c1, (World.frozen?_of_block (a := ⟨r, 0, none⟩) hb).trans f0, (World.frozen?_of_block (a := ⟨r, 1, none⟩) hb).trans f1, ne, bd, ln⟩
theorem add_block (x : Addr) (q : Nat) : (x.add q).block = x.block := by unfold Addr.add; split <;> rfl
theorem cutB_own (a : Option Addr) (q cap n m c : Nat) : (Value.slice (cutB a q cap) n m).ownBlock = (Value.slice a c c).ownBlock := by
  unfold cutB
  split
  · cases a <;> rfl
  · cases a with
    | none => rfl
    | some x => show some (x.add q).block = some x.block; rw [add_block]
set_option maxRecDepth 100000 in
theorem slice_fromB (a : Option Addr) (L cap q : Nat) (h : q ≤ L) (W : World) :
    (Instr.slice 40 (.slice a L cap) (some (.int .i64 (q : Int))) none none).run Try.prog W = .ok (.slice (cutB a q cap) (L - q) (cap - q)) W := by
  have hu : Try.prog.underlying 40 = some (.slice (Try.prog.elem 40)) := Try.underlying40
  have hs : (sizeOf (Try.prog.elem 40)).run Try.prog W = .ok 1 W := by kernel_rfl
  rw [run_slice_l (P := Try.prog) W 40 a L cap hu .i64 (q : Int) (by omega) (by omega), hs]
  simp only [Result.andThen, sliced]
  have e1 : ((q : Int)).toNat = q := by omega
  rw [e1, Nat.mul_one]
  rfl
theorem gl_bad : ∀ (r : List Int) (i : Nat) (n : Int), (gl r i n).2.2 ≠ 0 → (gl r i n).2.1 = 0 := by
  intro r
  induction r with
  | nil => intro i n _; rfl
  | cons c r ih =>
    intro i n h
    by_cases h1 : 2147483647 < n + c % 128 * 2 ^ (7 * i) ∨ (i = 4 ∧ 128 ≤ c)
    · rw [gl_over h1]
    · by_cases h2 : 0 < i ∧ c = 0
      · rw [gl_syn h1 h2]
      · by_cases h3 : c < 128
        · rw [gl_end h1 h2 h3] at h; exact absurd rfl h
        · rw [gl_step h1 h2 h3] at h ⊢
          exact ih _ _ h
theorem getS_bad {b : List Int} {p : Nat} (h : (getS b p).2.2 ≠ 0) : (getS b p).2.1 = 0 := by
  cases b with
  | nil => rfl
  | cons z r =>
    have e : getS (z :: r) p = if z % 2 ^ p < 2 ^ p - 1 then (z % 2 ^ p, 1, 0) else gl r 0 (z % 2 ^ p) := rfl
    rw [e] at h ⊢
    split at h
    · exact absurd rfl h
    · rename_i h1
      rw [if_neg h1]
      exact gl_bad _ _ _ h
theorem getS_le (b : List Int) (p : Nat) : (getS b p).2.1 ≤ b.length := by
  by_cases h : (getS b p).2.2 = 0
  · exact (getS_ok h).2.2
  · rw [getS_bad h]; omega
theorem rtS_le (b : List Int) : (rtS b).2.1 ≤ b.length := by
  unfold rtS
  have h1 := @getS_ok b 7
  split
  · simp
  · rename_i h0
    have h2 := h1 (by simpa using h0)
    split
    · simp
    · split
      · simp
      · split
        · simp
        · split
          · simp
          · split
            · simp
            · simp only; omega
set_option maxRecDepth 100000 in
set_option maxHeartbeats 4000000 in
theorem rnum_any {w : World} {r : Nat} {B : Option Nat} {b : List Int} {e : Nat} (h : IsRd w r B b e) (p : Nat) (hp : p = 4 ∨ p = 5 ∨ p = 6 ∨ p = 7) :
    Calls Try.prog 30 #[.pointer (some ⟨r, 0, none⟩), .int .i64 p] w fun en w' => en = .returned (.int .i64 (numS b e p).1) ∧ IsRd w' r B (numS b e p).2.1 (numS b e p).2.2 ∧ Mod (fun k => k = r) w w' := by
  have H := Lib.hid h
  obtain ⟨⟨v, c0, hv, hB⟩, c1, f0, f1, ne, bd, ln⟩ := h
  obtain ⟨a, L, cap, rfl, hL, hcap⟩ : ∃ a L c, v = .slice a L c ∧ b.length = L ∧ L ≤ c := by obtain ⟨x, c, e, h1, -⟩ := hv.open; exact ⟨_, _, _, e, rfl, h1⟩
  by_cases he : e = 0
  · subst he
    have hq : ∀ G, numS b 0 p = G → G = ((getS b p).1, b.drop (getS b p).2.1, (getS b p).2.2) := fun G h => by rw [← h]; unfold numS; rw [if_neg (by simp)]
    obtain ⟨G, hG⟩ : ∃ G, numS b 0 p = G := ⟨_, rfl⟩
    have hq2 := hq G hG
    rw [hG]
    clear hq hG
    subst hq2
    simp only
    have HG := Lib.hid (wget_any p hp (.slice a L cap) b w hv bd ln)
    have hle := getS_le b p
    generalize getS b p = G at *
    obtain ⟨n, used, er⟩ := G
    simp only at HG hle ⊢
    have hsl := fun W => slice_fromB a L cap used (by omega) W
    have HV := Lib.hid hv
    have HBB := Lib.hid hB
    have HL := Lib.hid hL
    have HBD := Lib.hid bd
    have HLN := Lib.hid ln
    have HNE := Lib.hid ne
    have HU := Lib.hid hle
    have e0 : errV 0 = .nilIface := rfl
    rw [e0] at c1
    have hfin : Hid (∀ W, W = (w.setCell ⟨r, 0, none⟩ (.slice (cutB a used cap) (L - used) (cap - used))).setCell ⟨r, 1, none⟩ (errV er) → IsRd W r B (b.drop used) er ∧ Mod (fun k => k = r) w W) := by
      rintro W rfl
      have k0 := World.cell?_setCell_same w ⟨r, 0, none⟩ (.slice (cutB a used cap) (L - used) (cap - used)) c0
      have k1 := (World.cell?_setCell_other w ⟨r, 0, none⟩ ⟨r, 1, none⟩ (.slice (cutB a used cap) (L - used) (cap - used)) (by simp)).trans c1
      refine ⟨⟨⟨_, (World.cell?_setCell_other _ _ _ _ (by simp)).trans k0, ?_, ?_⟩, World.cell?_setCell_same _ _ _ k1, by simpa using f0, by simpa using f1, ne, fun z hz => bd z (List.mem_of_mem_drop hz), by rw [List.length_drop]; omega⟩, ?_⟩
      · refine bytes_set (bytes_set (bytes_from hv used (by omega)) ?_) ?_
        · rw [cutB_own _ _ _ _ _ cap]; rw [show (Value.slice a cap cap).ownBlock = (Value.slice a L cap).ownBlock from by cases a <;> rfl, hB]; exact ne
        · rw [cutB_own _ _ _ _ _ cap]; rw [show (Value.slice a cap cap).ownBlock = (Value.slice a L cap).ownBlock from by cases a <;> rfl, hB]; exact ne
      · rw [cutB_own _ _ _ _ _ cap, ← hB]; cases a <;> rfl
      · have hM0 : Mod (fun k => k = r) w w := Mod.ofBelow (Below.refl w.heap.size w) (fun k hk hge => by omega)
        exact (hM0.setCell (fun _ => rfl) _).setCell (fun _ => rfl) _
    clear hv hB hL bd ln ne hle
    by_cases her : er = 0
    · subst her
      rw [e0] at HG hfin
      go_enter Try.func30, Try.ntmps30
      go_wp2_with (first
        | (go_at_call 35; (with_reducible refine HG.out.mono ?_); rintro e w1 ⟨rfl, rfl⟩)
        | fail)
      go_ret
      exact ⟨rfl, hfin.out _ rfl⟩
    · have e1 : errV er = .iface 49 (.int .i64 er) := if_neg her
      rw [e1] at HG hfin
      go_enter Try.func30, Try.ntmps30
      go_wp2_with (first
        | (go_at_call 35; (with_reducible refine HG.out.mono ?_); rintro e w1 ⟨rfl, rfl⟩)
        | fail)
      go_ret
      exact ⟨rfl, hfin.out _ rfl⟩
  · have e1 : errV e = .iface 49 (.int .i64 e) := if_neg he
    have e2 : numS b e p = (0, b, e) := if_pos he
    rw [e2]
    rw [e1] at c1
    go_enter Try.func30, Try.ntmps30
    go_wp2_with fail
    go_ret
    exact ⟨rfl, H.out, Mod.ofBelow (Below.refl w.heap.size w) (fun k hk hge => by omega)⟩
set_option maxRecDepth 100000 in
set_option maxHeartbeats 4000000 in
theorem rtext_any {w : World} {r : Nat} {B : Option Nat} {b : List Int} {e : Nat} (h : IsRd w r B b e) :
    Calls Try.prog 36 #[.pointer (some ⟨r, 0, none⟩)] w fun en w' => en = .returned (.string ⟨(textS b e).1.toArray⟩) ∧ IsRd w' r B (textS b e).2.1 (textS b e).2.2 ∧ Mod (fun k => k = r) w w' := by
  have H := Lib.hid h
  have hrl := h.lt
  obtain ⟨⟨v, c0, hv, hB⟩, c1, f0, f1, ne, bd, ln⟩ := h
  obtain ⟨a, L, cap, rfl, hL, hcap⟩ : ∃ a L c, v = .slice a L c ∧ b.length = L ∧ L ≤ c := by obtain ⟨x, c, e, h1, -⟩ := hv.open; exact ⟨_, _, _, e, rfl, h1⟩
  by_cases he : e = 0
  · subst he
    have hq : ∀ G, textS b 0 = G → G = ((rtS b).1, b.drop (rtS b).2.1, (rtS b).2.2) := fun G h => by rw [← h]; unfold textS; rw [if_neg (by simp)]
    obtain ⟨G, hG⟩ : ∃ G, textS b 0 = G := ⟨_, rfl⟩
    have hq2 := hq G hG
    rw [hG]
    clear hq hG
    subst hq2
    simp only
    have HG := readText_any (.slice a L cap) b w hv bd ln
    unfold RT at HG
    replace HG := Lib.hid HG
    have hle := rtS_le b
    generalize rtS b = G at *
    obtain ⟨n, used, er⟩ := G
    simp only at HG hle ⊢
    have hsl := fun W => slice_fromB a L cap used (by omega) W
    have HV := Lib.hid hv
    have HBB := Lib.hid hB
    have HL := Lib.hid hL
    have HBD := Lib.hid bd
    have HLN := Lib.hid ln
    have HNE := Lib.hid ne
    have HU := Lib.hid hle
    have e0 : errV 0 = .nilIface := rfl
    rw [e0] at c1
    have hfin : Hid (∀ w1 W, Below w.heap.size w w1 → W = (w1.setCell ⟨r, 0, none⟩ (.slice (cutB a used cap) (L - used) (cap - used))).setCell ⟨r, 1, none⟩ (errV er) → IsRd W r B (b.drop used) er ∧ Mod (fun k => k = r) w W) := by
      rintro w1 W hB1 rfl
      have c0 := (hB1.cell (p := ⟨r, 0, none⟩) hrl).trans c0
      have c1 := (hB1.cell (p := ⟨r, 1, none⟩) hrl).trans c1
      have f0 := (hB1.frozen (p := ⟨r, 0, none⟩) hrl).trans f0
      have f1 := (hB1.frozen (p := ⟨r, 1, none⟩) hrl).trans f1
      have hv := hv.below hB1
      have k0 := World.cell?_setCell_same w1 ⟨r, 0, none⟩ (.slice (cutB a used cap) (L - used) (cap - used)) c0
      have k1 := (World.cell?_setCell_other w1 ⟨r, 0, none⟩ ⟨r, 1, none⟩ (.slice (cutB a used cap) (L - used) (cap - used)) (by simp)).trans c1
      refine ⟨⟨⟨_, (World.cell?_setCell_other _ _ _ _ (by simp)).trans k0, ?_, ?_⟩, World.cell?_setCell_same _ _ _ k1, by simpa using f0, by simpa using f1, ne, fun z hz => bd z (List.mem_of_mem_drop hz), by rw [List.length_drop]; omega⟩, ?_⟩
      · refine bytes_set (bytes_set (bytes_from hv used (by omega)) ?_) ?_
        · rw [cutB_own _ _ _ _ _ cap]; rw [show (Value.slice a cap cap).ownBlock = (Value.slice a L cap).ownBlock from by cases a <;> rfl, hB]; exact ne
        · rw [cutB_own _ _ _ _ _ cap]; rw [show (Value.slice a cap cap).ownBlock = (Value.slice a L cap).ownBlock from by cases a <;> rfl, hB]; exact ne
      · rw [cutB_own _ _ _ _ _ cap, ← hB]; cases a <;> rfl
      · have hM0 : Mod (fun k => k = r) w w1 := Mod.ofBelow hB1 (fun k hk hge => by omega)
        exact (hM0.setCell (fun _ => rfl) _).setCell (fun _ => rfl) _
    clear hv hB hL bd ln ne hle
    by_cases her : er = 0
    · subst her
      rw [e0] at HG hfin
      go_enter Try.func36, Try.ntmps36
      go_wp2_with (first
        | (go_at_call 40; (with_reducible refine HG.out.mono ?_); rintro e w1 ⟨hB1, rfl⟩; have d0 := (hB1.cell (p := ⟨r, 0, none⟩) hrl).trans c0; have d1 := (hB1.cell (p := ⟨r, 1, none⟩) hrl).trans c1; have d2 := (hB1.frozen (p := ⟨r, 0, none⟩) hrl).trans f0; have d3 := (hB1.frozen (p := ⟨r, 1, none⟩) hrl).trans f1; have HB1 := Lib.hid hB1; clear hB1)
        | fail)
      go_ret
      exact ⟨rfl, hfin.out _ _ HB1.out rfl⟩
    · have e1 : errV er = .iface 49 (.int .i64 er) := if_neg her
      rw [e1] at HG hfin
      go_enter Try.func36, Try.ntmps36
      go_wp2_with (first
        | (go_at_call 40; (with_reducible refine HG.out.mono ?_); rintro e w1 ⟨hB1, rfl⟩; have d0 := (hB1.cell (p := ⟨r, 0, none⟩) hrl).trans c0; have d1 := (hB1.cell (p := ⟨r, 1, none⟩) hrl).trans c1; have d2 := (hB1.frozen (p := ⟨r, 0, none⟩) hrl).trans f0; have d3 := (hB1.frozen (p := ⟨r, 1, none⟩) hrl).trans f1; have HB1 := Lib.hid hB1; clear hB1)
        | fail)
      go_ret
      exact ⟨rfl, hfin.out _ _ HB1.out rfl⟩
  · have e1 : errV e = .iface 49 (.int .i64 e) := if_neg he
    have e2 : textS b e = ([], b, e) := if_pos he
    rw [e2]
    rw [e1] at c1
    go_enter Try.func36, Try.ntmps36
    go_wp2_with fail
    go_ret
    exact ⟨rfl, H.out, Mod.ofBelow (Below.refl w.heap.size w) (fun k hk hge => by omega)⟩
end Go.Proofs.Ytbbhinhledkceaa.HeadC
