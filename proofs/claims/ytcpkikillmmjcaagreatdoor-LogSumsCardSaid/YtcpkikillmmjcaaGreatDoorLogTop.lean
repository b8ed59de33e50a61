/-
  log.Top over this seat's translation: the paths that stand there most often, in order.
  Conditions: a slice that reads as entries, each path no longer than a text may be.
-/
import Derived.Test.YtcpkikillmmjcaaGreatDoorLogCmp
import Derived.Test.YtcpkikillmmjcaaGreatDoorLogRank
import Derived.Test.YtcpkikillmmjcaaGreatDoorLaySF
import Derived.Test.YtcpkikillmmjcaaGreatDoorMaps
import Derived.Test.YtcpkikillmmjcaaGreatDoorRows1
import Derived.Shelf.SlSortCmp.NoneTotal
import Derived.IntWalk
import Derived.Deep.CutRange
namespace Go.Proofs.YtcpkikillmmjcaaGreatDoor.LogC
open Go.RowKit Go.Shelf Go.Maps Go.WideAt LogP LineC RowsK Args LogTopP MapsL
set_option linter.unusedVariables false
set_option linter.unusedSimpArgs false

theorem ba_ext {a b : ByteArray} (h : a.data.toList = b.data.toList) : a = b := by
  cases a; cases b
  simp only [ByteArray.mk.injEq]
  exact Array.toList_inj.1 h
theorem sameStr (a b : ByteArray) : (Lit.string a.data.toList).sameKey (.string b.data.toList) = decide (a = b) := by
  by_cases h : a = b
  · subst h; rw [Go.WideAt.sameKey_self (a := Lit.string a.data.toList) (by trivial)]; simp
  · rw [sameKey_ne (by intro e; simp only [Lit.string.injEq] at e; exact h (ba_ext e))]; simp [h]
def rowC (us : List ByteArray) (f : ByteArray → Nat) : AL := us.map fun p => (Lit.string p.data.toList, Value.int .i64 (f p : Nat))
/-- The map 'count' behind the entries l. -/
def encC (l : List En) : AL := rowC (uniq l) (cnt l)
theorem find_rowC (f : ByteArray → Nat) (q : ByteArray) : ∀ us : List ByteArray, find (rowC us f) (.string q.data.toList) = if q ∈ us then some (.int .i64 (f q : Nat)) else none
  | [] => rfl
  | p :: us => by
    show find ((Lit.string p.data.toList, Value.int .i64 (f p : Nat)) :: rowC us f) _ = _
    rw [find_cons, find_rowC f q us, sameStr]
    by_cases h : p = q
    · subst h; simp
    · have h2 : ¬ q = p := fun e => h e.symm
      simp [h, h2]
theorem find_encC (l : List En) (q : ByteArray) : (find (encC l) (.string q.data.toList)).getD (.int .i64 0) = .int .i64 (cnt l q : Nat) := by
  unfold encC
  rw [find_rowC]
  by_cases h : q ∈ uniq l
  · rw [if_pos h]; rfl
  · rw [if_neg h]
    have : cnt l q = 0 := by have := mt (mem_uniq l q).2 h; omega
    rw [this]; rfl
theorem put_rowC (f g : ByteArray → Nat) (q : ByteArray) : ∀ us : List ByteArray, us.Nodup → (∀ p ∈ us, p ≠ q → g p = f p) → putA (rowC us f) (.string q.data.toList) (.int .i64 (g q : Nat)) = if q ∈ us then rowC us g else rowC us f ++ [(.string q.data.toList, .int .i64 (g q : Nat))]
  | [], _, _ => rfl
  | p :: us, hn, hg => by
    show putA ((Lit.string p.data.toList, Value.int .i64 (f p : Nat)) :: rowC us f) _ _ = _
    have hn' := List.nodup_cons.1 hn
    simp only [putA, sameStr]
    by_cases h : p = q
    · subst h
      rw [if_pos (by simp), if_pos (by simp)]
      show _ = (Lit.string p.data.toList, Value.int .i64 (g p : Nat)) :: rowC us g
      congr 1
      unfold rowC
      apply List.map_congr_left
      intro x hx
      rw [hg x (by simp [hx]) (by rintro rfl; exact hn'.1 hx)]
    · have h2 : ¬ q = p := fun e => h e.symm
      rw [if_neg (by simp [h]), put_rowC f g q us hn'.2 (fun x hx => hg x (by simp [hx]))]
      by_cases hq : q ∈ us
      · rw [if_pos hq, if_pos (by simp [hq])]
        show _ = (Lit.string p.data.toList, Value.int .i64 (g p : Nat)) :: rowC us g
        rw [hg p (by simp) h]
      · rw [if_neg hq, if_neg (by simp [hq, h2])]
        rfl
theorem put_encC (l : List En) (e : En) : putA (encC l) (.string e.path.data.toList) (.int .i64 ((cnt l e.path : Nat) + 1 : Int)) = encC (l ++ [e]) := by
  have h := put_rowC (cnt l) (cnt (l ++ [e])) e.path (uniq l) (nodup_uniq l) (fun p _ hp => by rw [cnt_snoc, if_neg (fun h => hp h.symm)]; rfl)
  have hc : cnt (l ++ [e]) e.path = cnt l e.path + 1 := by rw [cnt_snoc, if_pos rfl]
  rw [hc] at h
  unfold encC
  rw [show ((cnt l e.path : Nat) + 1 : Int) = ((cnt l e.path + 1 : Nat) : Int) from by omega, h, uniq_snoc]
  by_cases hq : e.path ∈ uniq l
  · rw [if_pos hq, if_pos hq]
  · rw [if_neg hq, if_neg hq]
    unfold rowC
    rw [List.map_append]
    congr 1
    · apply List.map_congr_left
      intro p hp
      rw [cnt_snoc, if_neg (by rintro rfl; exact hq hp)]; rfl
    · simp [hc]
theorem encC_len (l : List En) : (encC l).length ≤ l.length := by unfold encC rowC; rw [List.length_map]; exact uniq_le l

theorem keyedC : Maps.Keyed Tryz.prog 9 := Maps.string_keyed Tryz.underlying9
theorem zeroC (w : World) : (zeroValue 3).run Tryz.prog w = .ok (.int .i64 0) w := by kernel_rfl

set_option maxRecDepth 100000 in
set_option maxHeartbeats 2000000 in
/-- The closure that compares two paths. -/
theorem top1_any (l : List En) (a b : ByteArray) (ha : a.size ≤ maxLen) (hb : b.size ≤ maxLen) (g m : Nat) (w : World) (hc : w.cell? ⟨g, 0, none⟩ = some (.map (some m))) (hm : MapIs w Tryz.prog 9 m (encC l)) :
    Calls Tryz.prog 32 #[.string a, .string b, .pointer (some ⟨g, 0, none⟩)] w fun e w' => e = .returned (.int .i64 (cfP l a b)) ∧ ∃ o, w' = w.alloc o := by
  have HKA := Lib.hid (Go.WideMaps.keyOf_string_mk Tryz.underlying9 ha)
  have HKB := Lib.hid (Go.WideMaps.keyOf_string_mk Tryz.underlying9 hb)
  have HFA := Lib.hid (find_encC l a)
  have HFB := Lib.hid (find_encC l b)
  have HM := Lib.hid hm
  have HC := Lib.hid (compI_any (cnt l b : Nat) (cnt l a : Nat))
  have HS := Lib.hid (compS_any a b)
  obtain ⟨x, hx⟩ : ∃ x, Lib.compareInt (cnt l b : Nat) (cnt l a : Nat) = x := ⟨_, rfl⟩
  obtain ⟨y, hy⟩ : ∃ y, cmpS a b = y := ⟨_, rfl⟩
  have HO := Lib.hid (fun g W c0 c1 => or_any g x y W c0 c1)
  obtain ⟨z, hz⟩ : ∃ z, (if x ≠ 0 then x else y) = z := ⟨_, rfl⟩
  have HR : Hid (cfP l a b = z) := by show _ = _; unfold cfP; rw [hx, hy, hz]
  rw [hz] at HO
  rw [hx] at HC
  rw [hy] at HS
  clear hx hy hz hm ha hb
  generalize ((cnt l a : Nat) : Int) = ca at *
  generalize ((cnt l b : Nat) : Int) = cb at *
  go_enter Tryz.func32, Tryz.ntmps32
  go_wp2_with (first
    | (at_lookup; (with_reducible refine wpList_look rfl _ _ 65 rfl 9 3 keyedC Tryz.underlying65 _ (zeroC _) m (encC l) rfl HM.out (.string b) (.string b.data.toList) rfl HKB.out ?_); rw [HFB.out])
    | (at_lookup; (with_reducible refine wpList_look rfl _ _ 65 rfl 9 3 keyedC Tryz.underlying65 _ (zeroC _) m (encC l) rfl HM.out (.string a) (.string a.data.toList) rfl HKA.out ?_); rw [HFA.out])
    | (go_at_call 34; (with_reducible refine (HC.out _).mono ?_); rintro e w1 ⟨rfl, rfl⟩)
    | (go_at_call 35; (with_reducible refine (HS.out _).mono ?_); rintro e w1 ⟨rfl, rfl⟩)
    | (go_at_call 33; (with_reducible refine (HO.out w.heap.size _ (by simp) (by simp)).mono ?_); rintro e w1 ⟨rfl, rfl⟩)
    | fail)
  go_ret
  exact ⟨by rw [HR.out]; rfl, _, rfl⟩
end Go.Proofs.YtcpkikillmmjcaaGreatDoor.LogC
