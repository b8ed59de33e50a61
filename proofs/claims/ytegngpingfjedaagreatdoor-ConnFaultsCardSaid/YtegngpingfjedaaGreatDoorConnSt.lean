/-
  A connection: its cells, what came and what goes out, in rows of its own; say, Out.
  Conditions: the lengths.
-/
import Derived.Test.YtegngpingfjedaaGreatDoorConnRow
import Derived.Test.YtegngpingfjedaaGreatDoorFrame
import Derived.Test.YtegngpingfjedaaGreatDoorSlicesB
import Derived.Lib.Hide
namespace Go.Proofs.YtegngpingfjedaaGreatDoor.ConnS
open Go.RowKit ModL ConnR BA WireBig SlicesB FrameC
set_option linter.unusedVariables false
set_option linter.unusedSimpArgs false

theorem ownB_of {w w' : World} {base : Nat} {v : Value} {acc : List Int} (h : BytesL.Own w base v acc) (hb : ∀ k, v.ownBlock = some k → w'.heap[k]? = w.heap[k]?) : BytesL.Own w' base v acc := by
  obtain ⟨h1, h2⟩ := h
  refine ⟨h1, ?_⟩
  rcases h2 with h2 | ⟨g, cap, cur, hv, hg, hh, r⟩
  · exact .inl h2
  · refine .inr ⟨g, cap, cur, hv, hg, ?_, r⟩
    rw [hb g (by rw [hv]; rfl)]; exact hh
theorem ownB_lt {w : World} {base : Nat} {v : Value} {acc : List Int} (h : BytesL.Own w base v acc) : ∀ k, v.ownBlock = some k → base ≤ k ∧ k < w.heap.size := World.ownsRow.lt h
/-- A connection at block g: its cells cs; what came (inn), what goes out (out). -/
structure Cn (base : Nat) (w : World) (g : Nat) (cs : Nat → Value) (inn out : List Int) : Prop where
  r : CR 14 w g cs
  i : BytesL.Own w base (cs 4) inn
  o : BytesL.Own w base (cs 5) out
  ap : ∀ k, (cs 4).ownBlock = some k → (cs 5).ownBlock ≠ some k
  gb : g < base
  bs : base ≤ w.heap.size
section
variable {base g : Nat} {w w' : World} {cs : Nat → Value} {inn out out' inn' : List Int} {v' : Value}
theorem Cn.of_blocks (h : Cn base w g cs inn out) (h0 : w'.heap[g]? = w.heap[g]?) (h1 : ∀ k, (cs 4).ownBlock = some k → w'.heap[k]? = w.heap[k]?) (h2 : ∀ k, (cs 5).ownBlock = some k → w'.heap[k]? = w.heap[k]?) (hs : w.heap.size ≤ w'.heap.size) : Cn base w' g cs inn out :=
  ⟨h.r.of_block h0 hs, ownB_of h.i h1, ownB_of h.o h2, h.ap, h.gb, Nat.le_trans h.bs hs⟩
theorem Cn.below (h : Cn base w g cs inn out) (hB : Below w.heap.size w w') : Cn base w' g cs inn out :=
  h.of_blocks (hB.block g h.r.lt) (fun k hk => hB.block k (ownB_lt h.i k hk).2) (fun k hk => hB.block k (ownB_lt h.o k hk).2) hB.size
theorem set_block (w : World) (a : Addr) (v : Value) {k : Nat} (hk : k < w.heap.size) (h : k ≠ a.block) : (w.setCell a v).heap[k]? = w.heap[k]? :=
  ((Mod.refl (fun k => k = a.block) w).setCell (fun _ => rfl) v).block k hk h
/-- Another cell than the two rows is set. -/
theorem Cn.set (h : Cn base w g cs inn out) (i : Nat) (hi : i < 14) (h4 : i ≠ 4) (h5 : i ≠ 5) (v : Value) : Cn base (w.setCell ⟨g, i, none⟩ v) g (upd cs i v) inn out := by
  have e4 : upd cs i v 4 = cs 4 := upd_other _ _ h4.symm
  have e5 : upd cs i v 5 = cs 5 := upd_other _ _ h5.symm
  have hgb := h.gb
  refine ⟨h.r.set i hi v, ?_, ?_, by rw [e4, e5]; exact h.ap, h.gb, by simpa using h.bs⟩
  · rw [e4]; exact ownB_of h.i (fun k hk => set_block _ _ _ (ownB_lt h.i k hk).2 (by have := (ownB_lt h.i k hk).1; simp only; omega))
  · rw [e5]; exact ownB_of h.o (fun k hk => set_block _ _ _ (ownB_lt h.o k hk).2 (by have := (ownB_lt h.o k hk).1; simp only; omega))
/-- Another row of what goes out. -/
theorem Cn.put5 (h : Cn base w g cs inn out) (hO : BytesL.Own w base v' out') (hap : ∀ k, (cs 4).ownBlock = some k → v'.ownBlock ≠ some k) : Cn base (w.setCell ⟨g, 5, none⟩ v') g (upd cs 5 v') inn out' := by
  have e4 : upd cs 5 v' 4 = cs 4 := upd_other _ _ (by decide)
  have e5 : upd cs 5 v' 5 = v' := upd_same _ _ _
  have hgb := h.gb
  refine ⟨h.r.set 5 (by decide) v', ?_, ?_, by rw [e4, e5]; exact hap, h.gb, by simpa using h.bs⟩
  · rw [e4]; exact ownB_of h.i (fun k hk => set_block _ _ _ (ownB_lt h.i k hk).2 (by have := (ownB_lt h.i k hk).1; simp only; omega))
  · rw [e5]; exact ownB_of hO (fun k hk => set_block _ _ _ (ownB_lt hO k hk).2 (by have := (ownB_lt hO k hk).1; simp only; omega))
/-- Another row of what came. -/
theorem Cn.put4 (h : Cn base w g cs inn out) (hO : BytesL.Own w base v' inn') (hap : ∀ k, v'.ownBlock = some k → (cs 5).ownBlock ≠ some k) : Cn base (w.setCell ⟨g, 4, none⟩ v') g (upd cs 4 v') inn' out := by
  have e4 : upd cs 4 v' 4 = v' := upd_same _ _ _
  have e5 : upd cs 4 v' 5 = cs 5 := upd_other _ _ (by decide)
  have hgb := h.gb
  refine ⟨h.r.set 4 (by decide) v', ?_, ?_, by rw [e4, e5]; exact hap, h.gb, by simpa using h.bs⟩
  · rw [e4]; exact ownB_of hO (fun k hk => set_block _ _ _ (ownB_lt hO k hk).2 (by have := (ownB_lt hO k hk).1; simp only; omega))
  · rw [e5]; exact ownB_of h.o (fun k hk => set_block _ _ _ (ownB_lt h.o k hk).2 (by have := (ownB_lt h.o k hk).1; simp only; omega))
/-- The row of what goes out grew: a world later, not stored yet. -/
theorem Cn.grown5 (h : Cn base w g cs inn out) (hO : BytesL.Own w' base v' out') (hg : w.grownBy w' (cs 5).ownBlock) (hat : v'.ownBlock = (cs 5).ownBlock ∨ v'.ownBlock = some w.heap.size) : Cn base (w'.setCell ⟨g, 5, none⟩ v') g (upd cs 5 v') inn out' := by
  have hgb := h.gb
  have k5 : ∀ k, (cs 5).ownBlock = some k → base ≤ k := fun k hk => (ownB_lt h.o k hk).1
  have kk : ∀ k, k < w.heap.size → (cs 5).ownBlock ≠ some k → w'.heap[k]? = w.heap[k]? := fun k hk hn => hg.block k hk (fun e => hn e.symm)
  have hr : CR 14 w' g cs := h.r.of_block (kk g h.r.lt (fun e => by have := k5 g e; omega)) hg.size
  have hi : BytesL.Own w' base (cs 4) inn := ownB_of h.i (fun k hk => kk k (ownB_lt h.i k hk).2 (h.ap k hk))
  have hn : ∀ k, (cs 4).ownBlock = some k → v'.ownBlock ≠ some k := by
    intro k hk
    rcases hat with e | e
    · rw [e]; exact h.ap k hk
    · rw [e]; intro e2; have := (ownB_lt h.i k hk).2; have := Option.some.inj e2; omega
  have e4 : upd cs 5 v' 4 = cs 4 := upd_other _ _ (by decide)
  have e5 : upd cs 5 v' 5 = v' := upd_same _ _ _
  refine ⟨hr.set 5 (by decide) v', ?_, ?_, by rw [e4, e5]; exact hn, h.gb, by have := hg.size; have := h.bs; simp; omega⟩
  · rw [e4]; exact ownB_of hi (fun k hk => set_block _ _ _ (ownB_lt hi k hk).2 (by have := (ownB_lt hi k hk).1; simp only; omega))
  · rw [e5]; exact ownB_of hO (fun k hk => set_block _ _ _ (ownB_lt hO k hk).2 (by have := (ownB_lt hO k hk).1; simp only; omega))
set_option maxRecDepth 100000 in
set_option maxHeartbeats 4000000 in
theorem say_any (h : Cn base w g cs inn out) (f : Fr) (vb : Value) (hb : BytesAt w vb f.body) (hf : f.inRange) (hl : f.body.length ≤ 1024) (hlen : out.length ≤ 1099511627776) :
    Calls Tryz.prog 54 #[.pointer (some ⟨g, 0, none⟩), .int .i64 f.kind, .int .i64 f.flags, .int .i64 f.stream, vb] w fun e w' => e = .returned (.tuple #[]) ∧ ∃ v', Cn base w' g (upd cs 5 v') inn (out ++ f.bytes) ∧ Mod (fun k => k = g ∨ some k = (cs 5).ownBlock) w w' := by
  obtain ⟨ab, cb, rfl, -⟩ := hb.open
  have HEN := Lib.hid (encode_any f _ w hb)
  have hgl := h.r.lt
  have c5 := h.r.at_ 5 (by decide)
  have f5 := h.r.fz 5 (by decide)
  obtain ⟨a5, k5, e5, -⟩ := h.o.slice
  obtain ⟨n5, hn5⟩ : ∃ n, out.length = n := ⟨_, rfl⟩
  rw [hn5] at e5
  rw [e5] at c5
  have HS := Lib.hid h
  have HE5 := Lib.hid e5
  have HN5 := Lib.hid hn5
  have HFL := Lib.hid (And.intro hf (And.intro hl hlen))
  have HFB : Hid (f.bytes.length ≤ 1100) := by
    show _ ≤ _
    simp only [Fr.bytes, List.length_append, bigL_len _ 3 (by omega), bigL_len _ 4 (by omega), List.length_cons, List.length_nil]
    simp only [show (3 : Int).toNat = 3 from rfl, show (4 : Int).toNat = 4 from rfl]
    omega
  obtain ⟨k, fl, st, body⟩ := f
  simp only [Fr.val] at HEN ⊢
  clear hb h e5 hn5 hf hl hlen
  go_enter Tryz.func54, Tryz.ntmps54
  go_wp2_with (first
    | (go_at_call 11; (with_reducible refine HEN.out.mono ?_); rintro e w1 ⟨hB1, ⟨hno, -⟩ | ⟨-, hno, -⟩ | ⟨-, -, v1, rfl, hO1⟩⟩; (exact absurd HFL.out.1 hno); (exact absurd HFL.out.2.1 (by simpa using hno)); obtain ⟨a1, k1, rfl, -⟩ := hO1.slice; have HX1 := Lib.hid (BytesAt.of_own hO1); have HS1 := Lib.hid (HS.out.below hB1); have HB1 := Lib.hid hB1; have d5 := (hB1.cell (p := ⟨g, 5, none⟩) hgl).trans c5; have g5 := (hB1.frozen (p := ⟨g, 5, none⟩) hgl).trans f5; clear hB1 hO1 c5 f5)
    | (at_builtin; refine wpList_append_bytes rfl _ _ rfl base (.slice a5 n5 k5) out (by first | rfl | (rw [HN5.out])) (by have h := HS1.out.o; rw [HE5.out] at h; exact h) _ _ rfl HX1.out (by have := HFL.out.2.2; have := HFB.out; omega) (HS1.out.bs) ?_; intro v2 w2 hO2 hB2 hg2 hat2; obtain ⟨a2, k2, rfl, -⟩ := hO2.slice; have kg := hg2.block g (HS1.out.r.lt) (fun e => by have := (ownB_lt HS1.out.o g (by rw [HE5.out]; exact e.symm)).1; have := HS1.out.gb; omega); have q5 := (World.cell?_of_block (a := ⟨g, 5, none⟩) kg).trans d5; have qf5 := (World.frozen?_of_block (a := ⟨g, 5, none⟩) kg).trans g5; have HO2 := Lib.hid hO2; have HG2 := Lib.hid hg2; have HAT2 := Lib.hid hat2; clear hO2 hB2 hg2 hat2 kg d5 g5)
    | fail)
  go_end0
  have hG := HG2.out
  have hA := HAT2.out
  rw [← HE5.out] at hG hA
  have hO := HO2.out
  rw [List.length_append] at hO hA
  refine ⟨rfl, _, HS1.out.grown5 hO hG hA, ?_⟩
  exact ((Mod.ofBelow HB1.out (fun k hk hge => by omega)).grown hG (fun k hk _ => .inr hk.symm)).setCell (fun _ => .inl rfl) _
end
/-- Out: what goes out is handed over. -/
theorem out_any {base g : Nat} {w : World} {cs : Nat → Value} {inn out : List Int} (h : Cn base w g cs inn out) :
    Calls Tryz.prog 13 #[.pointer (some ⟨g, 0, none⟩)] w fun e w' => ∃ a n c, e = .returned (.slice a n c) ∧ n = out.length ∧ BytesAt w' (.slice a n c) out ∧ (∀ k, (Value.slice a n c).ownBlock = some k → base ≤ k ∧ k < w.heap.size) ∧ Cn base w' g (upd cs 5 (.slice none 0 0)) inn [] ∧ w' = w.setCell ⟨g, 5, none⟩ (.slice none 0 0) := by
  have c5 := h.r.at_ 5 (by decide)
  have f5 := h.r.fz 5 (by decide)
  obtain ⟨a5, k5, e5, -⟩ := h.o.slice
  rw [e5] at c5
  have HS := Lib.hid h
  have HE5 := Lib.hid e5
  clear h e5
  obtain ⟨n, hn⟩ : ∃ n, out.length = n := ⟨_, rfl⟩
  have HN := Lib.hid hn
  rw [hn] at c5 HE5
  clear hn
  go_enter Tryz.func13, Tryz.ntmps13
  go_wp2_with fail
  go_ret
  have hO := HS.out.o
  rw [HE5.out] at hO
  have hn2 : BytesL.Own (w.setCell ⟨g, 5, none⟩ (.slice none 0 0)) base (.slice none 0 0) [] := BytesL.Own.nil _ _
  refine ⟨a5, n, k5, rfl, HN.out.symm, ?_, fun k hk => ownB_lt hO k hk, HS.out.put5 (BytesL.Own.nil _ _) (fun k hk => by simp [Value.ownBlock]), rfl⟩
  exact BytesAt.of_own (ownB_of hO (fun k hk => set_block _ _ _ (ownB_lt hO k hk).2 (by have := (ownB_lt hO k hk).1; have := HS.out.gb; simp only; omega)))
theorem over_any {base g : Nat} {w : World} {cs : Nat → Value} {inn out : List Int} {b : Bool} (h : Cn base w g cs inn out) (hb : cs 11 = .bool b) :
    Calls Tryz.prog 19 #[.pointer (some ⟨g, 0, none⟩)] w fun e w' => e = .returned (.bool b) ∧ w = w' := by
  have c := h.r.at_ 11 (by decide)
  rw [hb] at c
  clear h hb
  go_enter Tryz.func19, Tryz.ntmps19
  go_wp2_with fail
  go_ret
  exact ⟨rfl, rfl⟩
end Go.Proofs.YtegngpingfjedaaGreatDoor.ConnS
