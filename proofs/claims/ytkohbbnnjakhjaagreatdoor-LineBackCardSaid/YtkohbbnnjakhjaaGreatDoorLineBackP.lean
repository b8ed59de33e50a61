/-
  What ReadAsk and ReadTell give of told bytes, and of their beginnings.
  Conditions: where the bytes lie.
-/
import Derived.Test.YtkohbbnnjakhjaaGreatDoorReadTell
import Derived.Test.YtkohbbnnjakhjaaGreatDoorReadRev
import Derived.Test.YtkohbbnnjakhjaaGreatDoorReadTellP
import Derived.Test.YtkohbbnnjakhjaaGreatDoorReadFwd
import Derived.Test.YtkohbbnnjakhjaaGreatDoorAskLinesF
import Derived.Test.YtkohbbnnjakhjaaGreatDoorTellLinesF
import Derived.Test.YtkohbbnnjakhjaaGreatDoorChunkEnc
import Derived.Deep.DeepAppendWide
namespace Go.Proofs.YtkohbbnnjakhjaaGreatDoor.ReadS
open Go.RowKit BA ChunkD LineC LineM
set_option linter.unusedVariables false
set_option linter.unusedSimpArgs false

theorem askC_ok {b : List Int} : Ok b (askC b).2 := by
  unfold askC
  dsimp only
  have k0 : Ok b (0, 0) := fun _ => Nat.zero_le _
  have k1 := utS_ok (b := b) (stop := 32) (may := tokB) k0
  generalize utS b 32 tokB (0, 0) = m at *
  have k2 : Ok b (mtS b [32] (needS (!m.1.toList.isEmpty) m.2)) := mtS_ok (needS_ok k1)
  generalize mtS b [32] (needS (!m.1.toList.isEmpty) m.2) = s1 at *
  have k3 := utS_ok (b := b) (stop := 32) (may := visB) k2
  generalize utS b 32 visB s1 = p at *
  have k4 : Ok b (mtS b [32, 69, 68, 71, 69, 47, 49, 13, 10, 104, 111, 115, 116] (needS (!p.1.toList.isEmpty) p.2)) := mtS_ok (needS_ok k3)
  generalize mtS b [32, 69, 68, 71, 69, 47, 49, 13, 10, 104, 111, 115, 116] (needS (!p.1.toList.isEmpty) p.2) = s2 at *
  have k5 := valS_ok (b := b) k4
  generalize valS b s2 = h at *
  have k6 := hdS_ok (b := b) (least := 1) (coded := false) 42 [] _ (needS_ok (ok := !h.1.toList.isEmpty) k5)
  generalize hdS b 1 false 42 [] (needS (!h.1.toList.isEmpty) h.2) = d at *
  split
  · exact bodyS_ok k6
  · exact k6
theorem bodyC_ok {b : List Int} {bare closed : Bool} {c : Nat} {d : Hd} (h : Ok b d.σ) : Ok b (bodyC b bare closed c d).2 := by
  unfold bodyC
  split
  · exact h
  · rename_i h0
    have hd : d.σ.2 = 0 := by
      rcases Nat.eq_zero_or_pos d.σ.2 with h | h
      · exact h
      · exact absurd (.inl (by omega)) h0
    have hp := h hd
    split
    · intro h1
      have h2 := ReadC.dec_le (b := b.drop d.σ.1) ((b.drop d.σ.1).length + 1) 0 [] (Nat.zero_le _) h1
      rw [List.length_drop] at h2
      simp only [List.length_drop] at *
      omega
    split
    · exact bodyS_ok h
    split
    · intro h1; simp at h1
    split
    · intro h1; simp at h1
    · exact bodyS_ok h
theorem tellC_ok {b : List Int} {bare closed : Bool} : Ok b (tellC b bare closed).2 := bodyC_ok headC_ok
/-- A beginning of what was told as a request: more is to come. -/
theorem ask_cut {r : Rq} {cut : Nat} (h : askE r = 0) (hc : cut < (askBytes r).length) (hl : (askBytes r).length ≤ 20000) : faultS ((askBytes r).take cut) (askC ((askBytes r).take cut)).2 = 8 := by
  have h1 : (askC ((askBytes r).take cut)).2.2 = 8 := by
    rcases askC_pre (b := (askBytes r).take cut) (t := (askBytes r).drop cut) with h1 | h1
    · exact h1
    · exfalso
      rw [List.take_append_drop] at h1
      have h2 := askC_told (rest := []) h
      rw [List.append_nil] at h2
      have h3 := askC_ok (b := (askBytes r).take cut)
      rw [← h1, h2] at h3
      have := h3 rfl
      rw [List.length_take] at this
      simp only at this
      omega
  unfold faultS
  rw [if_neg (by rw [List.length_take]; omega), h1]
/-- A beginning of what was told as a reply: more is to come. -/
theorem tell_cut {r : Rp} {size cut : Nat} (h : tellE r size = 0) (hc : 200 ≤ r.code ∧ r.code ≠ 204 ∧ r.code ≠ 304) (hk : cut < (tellBytes r size).length) (hl : (tellBytes r size).length ≤ 20000) : faultS ((tellBytes r size).take cut) (tellC ((tellBytes r size).take cut) false true).2 = 8 := by
  have h1 : (tellC ((tellBytes r size).take cut) false true).2.2 = 8 := by
    have h2 := tellC_told (rest := []) (c := true) h hc
    rw [List.append_nil] at h2
    rcases tellC_pre (b := (tellBytes r size).take cut) (t := (tellBytes r size).drop cut) (bare := false) (c1 := true) (c2 := true) (by rw [List.take_append_drop]; exact h2.2) with h1 | h1
    · exact h1
    · exfalso
      rw [List.take_append_drop] at h1
      have h3 := tellC_ok (b := (tellBytes r size).take cut) (bare := false) (closed := true)
      rw [← h1, h2.1] at h3
      have := h3 rfl
      rw [List.length_take] at this
      simp only at this
      omega
  unfold faultS
  rw [if_neg (by rw [List.length_take]; omega), h1]
end Go.Proofs.YtkohbbnnjakhjaaGreatDoor.ReadS
namespace Go.Proofs.YtkohbbnnjakhjaaGreatDoor.BA
open Go.RowKit
set_option linter.unusedVariables false
set_option linter.unusedSimpArgs false
theorem Fresh.form {w : World} {b : Nat} {v : Value} {l : List Int} (h : Fresh w b v l) (hne : 1 ≤ l.length) : ∃ g cap, v = .slice (some ⟨g, 0, none⟩) l.length cap ∧ l.length ≤ cap := by
  rcases h with ⟨g, cap, rfl, h⟩ | h
  · exact ⟨g, cap, rfl, h.le⟩
  · obtain ⟨g, cap, e, h1, _⟩ := BytesL.Own.form h (by intro e; rw [e] at hne; simp at hne)
    exact ⟨g, cap, e, h1⟩
/-- append(b, x...), x of any length that memory bears; what comes of it may be appended to again. -/
theorem wpList_append_freshF {w : World} {ops : Array Oper} {rest : List Oper} {o : Oper} {a : Act} {Q : Exit → Act → World → Prop} (hgd : o.guard = none) (s x : Operand)
    (ho : o.op = .call { callee := .builtin .append, args := #[s, x], argTypes := #[23, 23] })
    (base : Nat) (v : Value) (l : List Int) (hs : a.eval s = v) (hfr : Fresh w base v l) (vx : Value) (y : List Int) (hx : a.eval x = vx) (hy : BytesAt w vx y)
    (hlen : l.length + y.length ≤ 140737488355328 + 1000000000) (hbase : base ≤ w.heap.size)
    (h : ∀ v' w', Fresh w' base v' (l ++ y) → Below base w w' → wpList Tryz.prog ops Q rest (a.put o.dst v') w') : wpList Tryz.prog ops Q (o :: rest) a w := by
  rcases hfr with ⟨g, cap, e, hC⟩ | hown
  · exact wpList_append_fresh hgd s x ho base g l.length cap l (hs.trans e) rfl hC vx y hx hy hlen h
  obtain ⟨i0, hi, hz0, hz1, hz2⟩ := info_parts BytesL.infoB
  obtain ⟨ax, cx, rfl, hc1, hc2, hnil, _⟩ := hy.open
  have key : ∃ v' w', (Builtin.append_ #[23, 23] o.type #[v, .slice ax y.length cx]).run Tryz.prog w = .ok v' w' ∧ BytesL.Own w' base v' (l ++ y) ∧ w.grownBy w' v.ownBlock := by
    cases ax with
    | none =>
      obtain rfl := hnil rfl
      have h0 : y = [] := List.eq_nil_of_length_eq_zero (by omega)
      subst h0
      refine ⟨v, w, run_append_owned_none (P := Tryz.prog) w base 23 o.type 5 i0 1 Tryz.underlying23 hi v l.length (BytesL.valB l) hown, by simpa using hown, World.grownBy.refl w _⟩
    | some ad =>
      obtain ⟨_, hcells⟩ := bytesAt_add hy
      obtain ⟨v', w', hr, h2, h3, _⟩ := run_append_own_wide (P := Tryz.prog) w base 23 o.type 5 i0 (.int .u8 0) 1 1 Tryz.underlying23 hi hz0 hz1 hz2 rfl (by decide) v l.length (BytesL.valB l) hown ad y.length cx (BytesL.valB y) (by simp) hcells
        (by intro u hu; obtain ⟨z, _, rfl⟩ := List.mem_map.1 hu; rfl) (by simp only [maxLen]; omega) (by omega) hbase
      exact ⟨v', w', hr, by simpa [BytesL.Own, BytesL.valB] using h2, h3⟩
  obtain ⟨v', w', hr, h2, h3⟩ := key
  refine wpList_plain hgd fun K hK => ?_
  unfold Oper.wp execOp
  simp only [ho, resolve, invoke, builtin, Sem.run_bind, Sem.run_pure, Result.andThen_ok, List.map_toArray, List.map_cons, List.map_nil, hs, hx, hr]
  exact hK _ _ (h v' w' (.inr h2) ((Below.refl _ _).grown h3 hbase (fun k hk => (hown.lt k hk).1)))
/-- The bytes that a text itself holds. -/
theorem fact_bytes (l : List Int) (h63 : l.length ≤ 1000) (w : World) : ∃ W0, (convert 23 23 (.slice (some ⟨w.heap.size, 0, none⟩) l.length l.length)).run Tryz.prog (w.alloc (.cells (BytesL.valB l).toArray 5)) = .ok (.slice (some ⟨w.heap.size, 0, none⟩) l.length l.length) W0 ∧ Below w.heap.size w W0 ∧ BytesAt W0 (.slice (some ⟨w.heap.size, 0, none⟩) l.length l.length) l := by
  have hc : (w.alloc (.cells (BytesL.valB l).toArray 5)).heap[w.heap.size]? = some (.cells (BytesL.valB l).toArray 5 (0, 0)) := heap_alloc_new w _
  refine ⟨_, ChunkC.run_mark _ w.heap.size l.length l.length _ _ hc, ?_, ?_⟩
  · exact ((Below.refl _ _).alloc (Nat.le_refl _) _).trans ((ChunkC.marked_freeze _ w.heap.size _).below (Nat.le_refl _))
  · refine (ChunkC.marked_freeze _ w.heap.size _).at _ _ _ hc ?_
    refine ⟨some ⟨w.heap.size, 0, none⟩, l.length, by simp [BytesL.valB], by simp [BytesL.valB], by omega, by simp, fun i hi => ⟨w.heap.size, 0, rfl, by simp, ?_⟩⟩
    have h3 : i < (BytesL.valB l).length := by simpa using hi
    simp
end Go.Proofs.YtkohbbnnjakhjaaGreatDoor.BA
namespace Go.Proofs.YtkohbbnnjakhjaaGreatDoor.ReadC
open Go.RowKit BA ChunkD ModL LineC RowsK FieldRows LineM
set_option linter.unusedVariables false
set_option linter.unusedSimpArgs false

/-- What was told as a request is read as it was. -/
theorem readAsk_told {r : Rq} {rest : List Int} {v : Value} {w : World} {L : Nat} (hb : BytesAt w v (askBytes r ++ rest)) (hz : ∀ z ∈ askBytes r ++ rest, 0 ≤ z ∧ z ≤ 255) (hlen : (askBytes r ++ rest).length ≤ 140737588355328) (h : askE r = 0) (hL : (askBytes r).length = L) :
    Calls Tryz.prog 4 #[v] w fun e w' => ∃ (a : Option Addr) (n c : Nat) (a2 : Option Addr) (n2 c2 : Nat), e = .returned (.tuple #[.agg #[.string r.method, .string r.path, .string r.host, .slice a n c, .slice a2 n2 c2], .int .i64 L, .nilIface]) ∧ At encF w' (.slice a n c) r.fields ∧ BytesAt w' (.slice a2 n2 c2) r.body ∧ Below w.heap.size w w' := by
  refine (readAsk_any v _ w hb hz hlen).mono ?_
  rintro e w' ⟨hB, h1⟩
  have h2 := ReadS.askC_told (rest := rest) h
  have h0 : ReadS.faultS (askBytes r ++ rest) (r, ((askBytes r).length, 0)).2 = 0 := by unfold ReadS.faultS; exact if_neg (by simp)
  rw [h2] at h1
  subst hL
  rcases h1 with ⟨_, a, n, c, a2, n2, c2, he, g1, g2⟩ | ⟨h3, _⟩
  · exact ⟨a, n, c, a2, n2, c2, he, g1, g2, hB⟩
  · exact absurd h0 h3
theorem readAsk_cut {r : Rq} {cut : Nat} {v : Value} {w : World} (hb : BytesAt w v ((askBytes r).take cut)) (hz : ∀ z ∈ askBytes r, 0 ≤ z ∧ z ≤ 255) (h : askE r = 0) (hc : cut < (askBytes r).length) (hl : (askBytes r).length ≤ 20000) :
    Calls Tryz.prog 4 #[v] w fun e w' => e = .returned (.tuple #[.agg #[.string ⟨#[]⟩, .string ⟨#[]⟩, .string ⟨#[]⟩, .slice none 0 0, .slice none 0 0], .int .i64 0, .iface 56 (.int .i64 8)]) ∧ Below w.heap.size w w' := by
  refine (readAsk_any v _ w hb (fun z hm => hz z (List.mem_of_mem_take hm)) (by rw [List.length_take]; omega)).mono ?_
  rintro e w' ⟨hB, h1⟩
  rw [ReadS.ask_cut h hc hl] at h1
  rcases h1 with ⟨h3, _⟩ | ⟨_, he⟩
  · cases h3
  · exact ⟨he, hB⟩
theorem readTell_told {r : Rp} {size : Nat} {rest : List Int} {v : Value} {w : World} {L : Nat} (hb : BytesAt w v (tellBytes r size ++ rest)) (hz : ∀ z ∈ tellBytes r size ++ rest, 0 ≤ z ∧ z ≤ 255) (hlen : (tellBytes r size ++ rest).length ≤ 140737588355328) (h : tellE r size = 0) (hc : 200 ≤ r.code ∧ r.code ≠ 204 ∧ r.code ≠ 304) (hL : (tellBytes r size).length = L) :
    Calls Tryz.prog 9 #[v, .bool false, .bool false] w fun e w' => ∃ (a : Option Addr) (n c : Nat) (a2 : Option Addr) (n2 c2 : Nat), e = .returned (.tuple #[.agg #[.int .i64 r.code, .slice a n c, .slice a2 n2 c2], .int .i64 L, .nilIface]) ∧ At encF w' (.slice a n c) r.fields ∧ BytesAt w' (.slice a2 n2 c2) r.body ∧ Below w.heap.size w w' := by
  refine (readTell_any v _ w false false hb hz hlen).mono ?_
  rintro e w' ⟨hB, h1⟩
  have h2 := (ReadS.tellC_told (rest := rest) (c := false) h hc).1
  have h0 : ReadS.faultS (tellBytes r size ++ rest) (r, ((tellBytes r size).length, 0)).2 = 0 := by unfold ReadS.faultS; exact if_neg (by simp)
  rw [h2] at h1
  subst hL
  rcases h1 with ⟨_, a, n, c, a2, n2, c2, he, g1, g2⟩ | ⟨h3, _⟩
  · exact ⟨a, n, c, a2, n2, c2, he, g1, g2, hB⟩
  · exact absurd h0 h3
theorem readTell_cut {r : Rp} {size cut : Nat} {v : Value} {w : World} (hb : BytesAt w v ((tellBytes r size).take cut)) (hz : ∀ z ∈ tellBytes r size, 0 ≤ z ∧ z ≤ 255) (h : tellE r size = 0) (hc : 200 ≤ r.code ∧ r.code ≠ 204 ∧ r.code ≠ 304) (hk : cut < (tellBytes r size).length) (hl : (tellBytes r size).length ≤ 20000) :
    Calls Tryz.prog 9 #[v, .bool false, .bool true] w fun e w' => e = .returned (.tuple #[.agg #[.int .i64 0, .slice none 0 0, .slice none 0 0], .int .i64 0, .iface 56 (.int .i64 8)]) ∧ Below w.heap.size w w' := by
  refine (readTell_any v _ w false true hb (fun z hm => hz z (List.mem_of_mem_take hm)) (by rw [List.length_take]; omega)).mono ?_
  rintro e w' ⟨hB, h1⟩
  rw [ReadS.tell_cut h hc hk hl] at h1
  rcases h1 with ⟨h3, _⟩ | ⟨_, he⟩
  · cases h3
  · exact ⟨he, hB⟩
/-- What any bytes are read as: nothing, with a fault; or a request that is told as these bytes. -/
theorem readAsk_back {b : List Int} {v : Value} {w : World} (hb : BytesAt w v b) (hz : ∀ z ∈ b, 0 ≤ z ∧ z ≤ 255) (hlen : b.length ≤ 140737588355328) :
    Calls Tryz.prog 4 #[v] w fun e w' => Below w.heap.size w w' ∧
      ((∃ k : Int, e = .returned (.tuple #[.agg #[.string ⟨#[]⟩, .string ⟨#[]⟩, .string ⟨#[]⟩, .slice none 0 0, .slice none 0 0], .int .i64 0, .iface 56 (.int .i64 k)])) ∨
       (∃ (q : Rq) (m : Nat) (a : Option Addr) (n c : Nat) (a2 : Option Addr) (n2 c2 : Nat), e = .returned (.tuple #[.agg #[.string q.method, .string q.path, .string q.host, .slice a n c, .slice a2 n2 c2], .int .i64 m, .nilIface]) ∧ At encF w' (.slice a n c) q.fields ∧ BytesAt w' (.slice a2 n2 c2) q.body ∧ askE q = 0 ∧ askBytes q = b.take m ∧ m ≤ b.length)) := by
  refine (readAsk_any v b w hb hz hlen).mono ?_
  rintro e w' ⟨hB, h1⟩
  refine ⟨hB, ?_⟩
  rcases h1 with ⟨h0, a, n, c, a2, n2, c2, he, g1, g2⟩ | ⟨h3, he⟩
  · right
    have h8 : (ReadS.askC b).2.2 = 0 := by
      unfold ReadS.faultS at h0
      split at h0
      · cases h0
      · exact h0
    have hh := ReadS.askC_back (b := b) (q := (ReadS.askC b).1) (n := (ReadS.askC b).2.1) hz (by rw [← h8])
    exact ⟨_, _, a, n, c, a2, n2, c2, he, g1, g2, hh⟩
  · left
    rw [errNk h3] at he
    exact ⟨_, he⟩
end Go.Proofs.YtkohbbnnjakhjaaGreatDoor.ReadC
