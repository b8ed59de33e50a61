/-
  copy of bytes into eight that the call made.
  Conditions: none.
-/
import Derived.Test.YtegngpingfjedaaConnSt
import Derived.Test.YtegngpingfjedaaFramesArg
import Derived.Laws.CopyRow
import Derived.Laws.CopyOwn
import Derived.Laws.Tables
namespace Go.Proofs.Ytegngpingfjedaa.ConnS
open Go.RowKit ModL ConnR BA WireBig SlicesB FrameC
set_option linter.unusedVariables false
set_option linter.unusedSimpArgs false

/-- The first eight, then zeros. -/
def eightL (l : List Int) : List Int := l.take 8 ++ List.replicate (8 - l.length) 0
theorem eightL_len (l : List Int) : (eightL l).length = 8 := by
  unfold eightL
  rw [List.length_append, List.length_take, List.length_replicate]
  omega
theorem eightL_by {l : List Int} (h : Args.ByteL l) : Args.ByteL (eightL l) := by
  intro z hz
  unfold eightL at hz
  rcases List.mem_append.1 hz with hz | hz
  · exact h z (List.mem_of_mem_take hz)
  · obtain ⟨-, rfl⟩ := List.mem_replicate.1 hz; decide
set_option maxRecDepth 100000 in
theorem copy8 (W : World) (b : Nat) (hg : W.heap[b]? = some (.cells #[.int .u8 0, .int .u8 0, .int .u8 0, .int .u8 0, .int .u8 0, .int .u8 0, .int .u8 0, .int .u8 0] 5 (0, 0))) (ty : TypeId) (ad : Addr) (n c : Nat) (l : List Int) (hv : BytesAt W (.slice (some ad) n c) l) :
    ∃ (W' : World) (k : Int), (Builtin.copy_ #[22, 22] ty #[.slice (some ⟨b, 0, none⟩) 8 8, .slice (some ad) n c]).run Try.prog W = .ok (.int .i64 k) W' ∧ W' = W.setRow b (BytesL.valB (eightL l)).toArray := by
  obtain ⟨hn, hcells⟩ := bytesAt_add hv
  subst hn
  have hlen : (BytesL.valB (l.take 8)).length = Nat.min l.length 8 := by
    rw [BytesL.valB_len, List.length_take]
    exact Nat.min_comm _ _
  have h := run_copy_row (P := Try.prog) W 22 22 ty 5 b 0 8 8 ad l.length c #[.int .u8 0, .int .u8 0, .int .u8 0, .int .u8 0, .int .u8 0, .int .u8 0, .int .u8 0, .int .u8 0] 5 (BytesL.valB (l.take 8)) Try.underlying22 (by kernel_rfl) hg hlen
    (fun j v hj => by
      have hj8 : j < (l.take 8).length := by
        rw [← BytesL.valB_len]
        exact (List.getElem?_eq_some_iff.1 hj).1
      refine hcells j v ?_
      rw [← hj]
      simp only [BytesL.valB, List.getElem?_map]
      rw [List.getElem?_take_of_lt (by rw [List.length_take] at hj8; omega)])
    (by rw [BytesL.valB_len, List.length_take]; simp; omega)
    (fun v hv => by
      obtain ⟨z, -, rfl⟩ := List.mem_map.1 hv
      rfl)
  refine ⟨_, _, h, ?_⟩
  congr 1
  have e8 : (#[Value.int .u8 0, .int .u8 0, .int .u8 0, .int .u8 0, .int .u8 0, .int .u8 0, .int .u8 0, .int .u8 0] : Array Value).toList = List.replicate 8 (.int .u8 0) := rfl
  rw [e8, BytesL.valB_len, List.drop_replicate, List.take_zero, List.nil_append, Nat.zero_add, List.length_take]
  unfold eightL BytesL.valB
  rw [List.map_append, List.map_replicate]
  rw [show 8 - Nat.min 8 l.length = 8 - l.length from by have h : Nat.min 8 l.length = min 8 l.length := rfl; rw [h]; omega]
theorem copy8_nil (W : World) (b : Nat) (ty : TypeId) :
    ∃ (k : Int), (Builtin.copy_ #[22, 22] ty #[.slice (some ⟨b, 0, none⟩) 8 8, .slice none 0 0]).run Try.prog W = .ok (.int .i64 k) W := by
  have hu : Try.prog.underlying 22 = some (.slice 5) := Try.underlying22
  refine ⟨0, ?_⟩
  kernel_rfl
theorem eight_any (w : World) (v : Value) (l : List Int) (hv : BytesAt w v l) (ty : TypeId) :
    ∃ (W' : World) (k : Int), (Builtin.copy_ #[22, 22] ty #[.slice (some ⟨w.heap.size, 0, none⟩) 8 8, v]).run Try.prog (w.alloc (.cells #[.int .u8 0, .int .u8 0, .int .u8 0, .int .u8 0, .int .u8 0, .int .u8 0, .int .u8 0, .int .u8 0] 5)) = .ok (.int .i64 k) W' ∧ BytesAt W' (.slice (some ⟨w.heap.size, 0, none⟩) 8 8) (eightL l) ∧ Below w.heap.size w W' := by
  have hB : Below w.heap.size w (w.alloc (.cells #[.int .u8 0, .int .u8 0, .int .u8 0, .int .u8 0, .int .u8 0, .int .u8 0, .int .u8 0, .int .u8 0] 5)) := (Below.refl _ _).alloc (Nat.le_refl _) _
  have hg : (w.alloc (.cells #[.int .u8 0, .int .u8 0, .int .u8 0, .int .u8 0, .int .u8 0, .int .u8 0, .int .u8 0, .int .u8 0] 5)).heap[w.heap.size]? = some (.cells #[.int .u8 0, .int .u8 0, .int .u8 0, .int .u8 0, .int .u8 0, .int .u8 0, .int .u8 0, .int .u8 0] 5 (0, 0)) := heap_alloc_new w _
  have hsz : w.heap.size < (w.alloc (.cells #[.int .u8 0, .int .u8 0, .int .u8 0, .int .u8 0, .int .u8 0, .int .u8 0, .int .u8 0, .int .u8 0] 5)).heap.size := by simp
  have hx := hv.below hB
  generalize w.alloc (.cells #[.int .u8 0, .int .u8 0, .int .u8 0, .int .u8 0, .int .u8 0, .int .u8 0, .int .u8 0, .int .u8 0] 5) = W at *
  obtain ⟨av, cv, rfl, h1, h2, h3, hel⟩ := hv.open
  have h8 : (BytesL.valB (eightL l)).length = 8 := by rw [BytesL.valB_len, eightL_len]
  cases av with
  | none =>
    have hc := h3 rfl
    subst hc
    have hl : l = [] := List.length_eq_zero_iff.1 (by omega)
    subst hl
    obtain ⟨k, hr⟩ := copy8_nil W w.heap.size ty
    refine ⟨W, k, hr, ⟨_, 8, by rw [h8], by omega, by decide, by simp, fun i hi => ⟨w.heap.size, 0, rfl, hsz, ?_⟩⟩, hB⟩
    simp only [World.cell?, hg]
    rw [h8] at hi
    rcases i with _ | _ | _ | _ | _ | _ | _ | _ | i
    all_goals first | rfl | omega
  | some ad =>
    obtain ⟨W', k, hr, hW⟩ := copy8 W w.heap.size hg ty ad _ cv l hx
    refine ⟨W', k, hr, ⟨_, 8, by rw [h8], by omega, by decide, by simp, fun i hi => ⟨w.heap.size, 0, rfl, by rw [hW]; simpa using hsz, ?_⟩⟩, by rw [hW]; exact below_setRow hB (Nat.le_refl _) _⟩
    rw [hW, Nat.zero_add, cell_setRow_same _ _ _ _ _ _ _ hg]
    simp
end Go.Proofs.Ytegngpingfjedaa.ConnS
