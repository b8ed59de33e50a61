/-
  The reference's Cut at any byte, over this seat's translation, exactly.
  Conditions: the text's length.
-/
import Derived.Test.YteadmakhcpjpnaaDoorTokRef
import Derived.Test.YteadmakhcpjpnaaDoorArgs
import Derived.Test.YteadmakhcpjpnaaDoorLogP
import Derived.Test.YteadmakhcpjpnaaDoorRowsMore
import Derived.Test.YteadmakhcpjpnaaDoorMod
import Derived.Deep.QuietTactic
import Derived.BigQuiet
import Derived.WalkSmall
import Derived.WalkSpells
import Derived.WalkLawsBesides
import Derived.IntWalk
import Derived.Lib.Walk
namespace Go.Proofs.YteadmakhcpjpnaaDoor.CutC
open Go.RowKit Go.Shelf LogP LineC RowsK RowsM Args ModL
set_option linter.unusedVariables false
set_option linter.unusedSimpArgs false

def encT : Enc ByteArray := ⟨1, fun s => [.string s], fun _ => rfl, fun x v hv => by simp at hv; subst hv; rfl, by decide⟩
theorem elemT : Elem Tryd.prog 44 9 encT.k 16 := Elem.of (z := .string ⟨#[]⟩) Tryd.underlying44 (by kernel_rfl) rfl (by decide)
/-- The pieces of a text at a byte. -/
def wordsC (c : UInt8) (s : ByteArray) : List ByteArray := (Lib.split s.data.toList [c]).map (fun l => ⟨l.toArray⟩)
theorem wordsC_data (c : UInt8) (s : ByteArray) : (wordsC c s).map (·.data.toList) = Lib.split s.data.toList [c] := by
  unfold wordsC
  rw [List.map_map]
  conv => rhs; rw [← List.map_id (Lib.split s.data.toList [c])]
  apply List.map_congr_left
  intro l _
  rfl
/-- Words, the byte behind each. -/
def flatB (c : UInt8) (L : List ByteArray) : List UInt8 := (L.map (fun x => x.data.toList ++ [c])).flatten
theorem flat_snoc (c : UInt8) (L : List ByteArray) (x : ByteArray) : flatB c (L ++ [x]) = flatB c L ++ (x.data.toList ++ [c]) := by simp [flatB]
theorem flat_len (c : UInt8) : ∀ L : List ByteArray, L.length ≤ (flatB c L).length
  | [] => by simp
  | x :: L => by
    have := flat_len c L
    simp only [flatB, List.map_cons, List.flatten_cons, List.length_append, List.length_cons, List.length_nil] at this ⊢
    omega
theorem join_flat (c : UInt8) : ∀ (L : List ByteArray) (q : ByteArray), Lib.join ((L ++ [q]).map (·.data.toList)) [c] = flatB c L ++ q.data.toList
  | [], q => by simp [flatB, Lib.join_one]
  | x :: L, q => by
    have ih := join_flat c L q
    have e : ((x :: L ++ [q]).map (·.data.toList)) = x.data.toList :: (L ++ [q]).map (·.data.toList) := rfl
    rw [e, Lib.join_cons]
    rcases hl : (L ++ [q]).map (·.data.toList) with _ | ⟨y, r⟩
    · simp at hl
    · rw [hl] at ih ⊢
      rw [Lib.join_cons] at ih
      have h2 : Lib.joinTail [c] (y :: r) = [c] ++ (y ++ Lib.joinTail [c] r) := by simp [Lib.joinTail]
      rw [h2, ih]
      simp [flatB]
theorem map_data_inj : ∀ {a b : List ByteArray}, a.map (·.data.toList) = b.map (·.data.toList) → a = b
  | [], [], _ => rfl
  | [], _ :: _, h => by simp at h
  | _ :: _, [], h => by simp at h
  | x :: a, y :: b, h => by
    simp only [List.map_cons, List.cons.injEq] at h
    rw [ba_eq h.1, map_data_inj h.2]
/-- The words ahead of a place. -/
structure CutAt (c : UInt8) (l : List UInt8) (f k : Nat) (L : List ByteArray) : Prop where
  fk : f ≤ k
  kl : k ≤ l.length
  fl : flatB c L = l.take f
  no : ∀ x ∈ L, c ∉ x.data.toList
  lst : c ∉ (l.take k).drop f
theorem CutAt.zero (c : UInt8) (l : List UInt8) : CutAt c l 0 0 [] := ⟨by omega, by omega, by simp [flatB], by simp, by simp⟩
theorem CutAt.len {c : UInt8} {l : List UInt8} {f k : Nat} {L : List ByteArray} (h : CutAt c l f k L) : L.length ≤ f := by
  have := flat_len c L
  rw [h.fl, List.length_take] at this
  omega
theorem CutAt.step {c : UInt8} {l : List UInt8} {f k : Nat} {L : List ByteArray} (h : CutAt c l f k L) (d : UInt8) (hc : l[k]? = some d) (hn : d ≠ c) : CutAt c l f (k + 1) L := by
  obtain ⟨hk, hc2⟩ := List.getElem?_eq_some_iff.1 hc
  refine ⟨by have := h.fk; omega, hk, h.fl, h.no, ?_⟩
  rw [List.take_succ_eq_append_getElem hk, List.drop_append_of_le_length (by rw [List.length_take]; have := h.fk; omega), hc2]
  intro hm
  rcases List.mem_append.1 hm with hm | hm
  · exact h.lst hm
  · exact hn (List.mem_singleton.1 hm).symm
theorem CutAt.cut {c : UInt8} {l : List UInt8} {f k : Nat} {L : List ByteArray} (h : CutAt c l f k L) (x : ByteArray) (hx : x.data.toList = (l.take k).drop f) (hc : l[k]? = some c) : CutAt c l (k + 1) (k + 1) (L ++ [x]) := by
  obtain ⟨hk, hc2⟩ := List.getElem?_eq_some_iff.1 hc
  refine ⟨by omega, hk, ?_, ?_, by simp⟩
  · rw [flat_snoc, h.fl, hx, ← List.append_assoc, List.take_succ_eq_append_getElem hk, hc2]
    congr 1
    have h1 : (l.take k).take f = l.take f := by rw [List.take_take, Nat.min_eq_left h.fk]
    rw [← h1, List.take_append_drop]
  · intro y hy
    rcases List.mem_append.1 hy with hy | hy
    · exact h.no y hy
    · rw [List.mem_singleton.1 hy, hx]; exact h.lst
theorem CutAt.done {c : UInt8} {s : ByteArray} {f : Nat} {L : List ByteArray} (h : CutAt c s.data.toList f s.size L) (x : ByteArray) (hx : x.data.toList = (s.data.toList.take s.size).drop f) : L ++ [x] = wordsC c s := by
  apply map_data_inj
  rw [wordsC_data]
  have hl : s.data.toList.take s.size = s.data.toList := List.take_of_length_le (by rw [← size_list]; omega)
  have hj : Lib.join ((L ++ [x]).map (·.data.toList)) [c] = s.data.toList := by
    rw [join_flat, h.fl, hx, hl, List.take_append_drop]
  rw [← hj]
  refine (split_join c _ (by simp) ?_).symm
  intro p hp
  rw [List.mem_map] at hp
  obtain ⟨y, hy, rfl⟩ := hp
  rcases List.mem_append.1 hy with hy | hy
  · exact h.no y hy
  · rw [List.mem_singleton.1 hy, hx]; exact h.lst
theorem extract_data (s : ByteArray) (f k : Nat) : (s.extract f k).data.toList = (s.data.toList.take k).drop f := by
  rw [ByteArray.data_extract, Array.toList_extract]
  simp [List.extract_eq_take_drop, List.drop_take]
set_option maxRecDepth 100000 in
set_option maxHeartbeats 8000000 in
theorem cut_any (c : UInt8) (z : Int) (hz : z = (c.toNat : Int)) (s : ByteArray) (hs : s.size < 4294967281) (w : World) : Calls Tryd.prog 19 #[.string s, .int .u8 z] w fun e w' =>
    ∃ v, e = .returned v ∧ RowsK.Own encT w' w.heap.size 9 v (wordsC c s) ∧ Below w.heap.size w w' := by
  subst hz
  have hsz := size_list s
  have HSZ := Lib.hid hsz
  clear hsz
  go_enter Tryd.func19, Tryd.ntmps19
  go_wp2_with fail
  go_loopw [5, 6, 7] (fun v5 f6 i wr => ∃ (k f n : Nat) (L : List ByteArray) (a : Option Addr) (cp : Nat), i = .int .i64 (k : Int) ∧ k ≤ s.size ∧ f6 = .int .i64 (f : Int) ∧ f ≤ k ∧ n ≤ k ∧ v5 = .slice a n cp ∧ Hid (n = L.length ∧ CutAt c s.data.toList f k L ∧ RowsK.Own encT wr w.heap.size 9 (.slice a n cp) L ∧ Below w.heap.size w wr)) (fun _ _ i _ => s.size - (intOf i).toNat)
  case atStart => exact ⟨0, 0, 0, [], none, 0, rfl, by omega, rfl, by omega, by omega, rfl, rfl, CutAt.zero _ _, RowsK.Own.nil _ _ _ _, Below.refl _ _⟩
  case round =>
    obtain ⟨k, f, n, L, a, cp, rfl, hk, rfl, hf, hn, rfl, HR⟩ := hrel
    by_cases hlt : k < s.size
    · obtain ⟨b, hb⟩ : ∃ b, s.data.toList[k]? = some b := ⟨_, List.getElem?_eq_getElem (by rw [← size_list]; exact hlt)⟩
      have HBK := Lib.hid hb
      have hix := sidx s k _ rfl _ hb
      clear hb
      have h1 : (k : Int) < (s.size : Int) := by omega
      have h0 : 0 ≤ (k : Int) := by omega
      have h2 : 0 ≤ (f : Int) := by omega
      have h3 : (f : Int) ≤ (k : Int) := by omega
      have h4 : (k : Int) ≤ (s.size : Int) := by omega
      by_cases hbl : b = c
      · subst hbl
        have heq : ((b.toNat : Int) == (b.toNat : Int)) = true := beq_self_eq_true _
        have HX := Lib.hid (extract_data s f k)
        obtain ⟨x, hx⟩ : ∃ x, s.extract f k = x := ⟨_, rfl⟩
        rw [hx] at HX
        have HOW : Hid (RowsK.Own encT (wr.alloc (.cells #[.string x] 9)) w.heap.size 9 (.slice a n cp) L) := (HR.out.2.2.1).alloc _
        have HAT : Hid (At encT (wr.alloc (.cells #[.string x] 9)) (.slice (some ⟨wr.heap.size, 0, none⟩) 1 1) [x]) := (RowsK.Own.lit (E := encT) (e := 9) wr #[.string x] [x] (Nat.le_refl _) (by simp) rfl).at_
        go_wp2_with (first
          | (at_builtin; (try simp only [hx]); refine RowsK.wpList_append elemT rfl _ _ rfl w.heap.size _ rfl HOW.out _ [x] rfl HAT.out (by have := HR.out.1; simp; omega) (by have := HR.out.2.2.2.size; simp; omega) ?_; intro v4 w4 hO4 hB4 hg4 hat4; obtain ⟨a4, c4, e4, -⟩ := hO4.slice; rw [show (L ++ [x]).length = n + 1 from (by have := HR.out.1; simp; omega)] at e4; subst e4; have HO4 := Lib.hid hO4; have HB4 := Lib.hid hB4; clear hO4 hB4 hg4 hat4)
          | fail)
        go_roundw
        case rel =>
          refine ⟨k + 1, k + 1, n + 1, L ++ [x], a4, c4, by simp, by omega, by simp, by omega, by omega, rfl, by have := HR.out.1; simp; omega, HR.out.2.1.cut x HX.out HBK.out, HO4.out, ?_⟩
          exact HR.out.2.2.2.trans (((Below.refl w.heap.size wr).alloc HR.out.2.2.2.size (.cells #[.string x] 9)).trans HB4.out)
        case measure => simp [intOf]; omega
      · have hne : ((b.toNat : Int) == (c.toNat : Int)) = false := beq_eq_false_iff_ne.2 (fun e => hbl (UInt8.toNat_inj.1 (by omega)))
        go_wp2_with fail
        go_roundw
        case rel =>
          exact ⟨k + 1, f, n, L, a, cp, by simp, by omega, rfl, by omega, by omega, rfl, HR.out.1, HR.out.2.1.step b HBK.out hbl, HR.out.2.2.1, HR.out.2.2.2⟩
        case measure => simp [intOf]; omega
    · obtain rfl : k = s.size := by omega
      have h2 : 0 ≤ (f : Int) := by omega
      have h3 : (f : Int) ≤ (s.size : Int) := by omega
      have HX := Lib.hid (extract_data s f s.size)
      obtain ⟨x, hx⟩ : ∃ x, s.extract f s.size = x := ⟨_, rfl⟩
      rw [hx] at HX
      have HOW : Hid (RowsK.Own encT (wr.alloc (.cells #[.string x] 9)) w.heap.size 9 (.slice a n cp) L) := (HR.out.2.2.1).alloc _
      have HAT : Hid (At encT (wr.alloc (.cells #[.string x] 9)) (.slice (some ⟨wr.heap.size, 0, none⟩) 1 1) [x]) := (RowsK.Own.lit (E := encT) (e := 9) wr #[.string x] [x] (Nat.le_refl _) (by simp) rfl).at_
      go_wp2_with (first
        | (at_builtin; (try simp only [hx]); refine RowsK.wpList_append elemT rfl _ _ rfl w.heap.size _ rfl HOW.out _ [x] rfl HAT.out (by have := HR.out.1; simp; omega) (by have := HR.out.2.2.2.size; simp; omega) ?_; intro v4 w4 hO4 hB4 hg4 hat4; have HO4 := Lib.hid hO4; have HB4 := Lib.hid hB4; clear hO4 hB4 hg4 hat4)
        | fail)
      go_ret
      refine ⟨_, rfl, ?_, ?_⟩
      · rw [← HR.out.2.1.done x HX.out]; exact HO4.out
      · exact HR.out.2.2.2.trans (((Below.refl w.heap.size wr).alloc HR.out.2.2.2.size (.cells #[.string x] 9)).trans HB4.out)
end Go.Proofs.YteadmakhcpjpnaaDoor.CutC
