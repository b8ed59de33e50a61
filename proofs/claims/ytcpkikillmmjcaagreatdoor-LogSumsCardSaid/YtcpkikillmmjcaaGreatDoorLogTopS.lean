/-
  slices.SortFunc of paths with the closure of log.Top over this seat's translation.
  Conditions: the row's cells, the map that the closure reads.
-/
import Derived.Test.YtcpkikillmmjcaaGreatDoorLogTop
namespace Go.Proofs.YtcpkikillmmjcaaGreatDoor.LogC
open Go.RowKit Go.Shelf LogP LineC RowsK Args LogTopP MapsL Go.Sort
set_option linter.unusedVariables false
set_option linter.unusedSimpArgs false

abbrev PS := { s : ByteArray // s.size ≤ maxLen }
instance : Inhabited PS := ⟨⟨ByteArray.empty, by decide⟩⟩
def encP (p : PS) : Value := .string p.1
def cfPS (l : List En) (x y : PS) : Int := cfP l x.1 y.1
theorem lt_iffS (l : List En) (a b : PS) : ltOf (cfPS l) a b = true ↔ Ahead l a.1 b.1 := lt_iff l a.1 b.1
theorem swoS (l : List En) : SWO (ltOf (cfPS l)) where
  irrefl x := (swoP l).irrefl x.1
  trans x y z := (swoP l).trans x.1 y.1 z.1
  ntrans x y z := (swoP l).ntrans x.1 y.1 z.1
theorem totS (l : List En) (x y : PS) (h : ltOf (cfPS l) x y = false) (k : ltOf (cfPS l) y x = false) : x = y := by
  apply Subtype.ext
  exact ahead_total (fun a => by rw [(lt_iffS l x y).2 a] at h; cases h) (fun a => by rw [(lt_iffS l y x).2 a] at k; cases k)
/-- What lies behind a sort, where the row does not lie. -/
theorem sortWorld_block {α : Type} [Inhabited α] (enc : α → Value) (w : World) (blk off n : Nat) (d : Array α) (os : Array Obj) (k : Nat) (hk : k < w.heap.size) (hne : k ≠ blk) : (sortWorld enc w blk off n d os).heap[k]? = w.heap[k]? := by
  unfold sortWorld
  rw [heap_grow_old _ _ (by rw [size_putRow]; exact hk)]
  show (w.heap.modify blk _)[k]? = _
  rw [Array.getElem?_modify, if_neg (fun e => hne e.symm)]
theorem sortWorld_size {α : Type} [Inhabited α] (enc : α → Value) (w : World) (blk off n : Nat) (d : Array α) (os : Array Obj) : w.heap.size ≤ (sortWorld enc w blk off n d os).heap.size := by
  unfold sortWorld
  simp only [grow, Array.size_append, size_putRow]
  exact Nat.le_add_right _ _
def listS : (l : List ByteArray) → (∀ p ∈ l, p.size ≤ maxLen) → List PS
  | [], _ => []
  | p :: l, h => ⟨p, h p (by simp)⟩ :: listS l (fun q hq => h q (by simp [hq]))
theorem listS_map : ∀ (l : List ByteArray) (h : ∀ p ∈ l, p.size ≤ maxLen), (listS l h).map (·.1) = l
  | [], _ => rfl
  | p :: l, h => by show p :: _ = _; rw [listS_map l]
theorem listS_len (l : List ByteArray) (h : ∀ p ∈ l, p.size ≤ maxLen) : (listS l h).length = l.length := by
  have := congrArg List.length (listS_map l h); rwa [List.length_map] at this
theorem listS_get (l : List ByteArray) (h : ∀ p ∈ l, p.size ≤ maxLen) (i : Nat) (hi : i < l.length) : ((listS l h).toArray[i]!).1 = l[i] := by
  have h2 : i < (listS l h).length := by rw [listS_len]; exact hi
  have e : (listS l h).toArray[i]! = (listS l h)[i] := by rw [getElem!_pos _ _ (by simpa using h2)]; simp
  rw [e]
  have := congrArg (fun q => q[i]?) (listS_map l h)
  simp only [List.getElem?_map, List.getElem?_eq_getElem h2, List.getElem?_eq_getElem hi, Option.map_some, Option.some.injEq] at this
  exact this
theorem cmpLays_top (l : List En) (g m blk size : Nat) (w : World) (hc : w.cell? ⟨g, 0, none⟩ = some (.map (some m))) (hm : MapIs w Tryz.prog 9 m (encC l)) (hg : g ≠ blk) (hmb : m ≠ blk) :
    CmpLays1 Tryz.prog 32 #[.pointer (some ⟨g, 0, none⟩)] encP (cfPS l) blk 0 size w := by
  intro n os dk hs x y
  have hlg : g < w.heap.size := block_lt_of_cell hc
  have h1 : (sortWorld encP w blk 0 n dk os).cell? ⟨g, 0, none⟩ = some (.map (some m)) := (World.cell?_of_block (w := w) (sortWorld_block encP w blk 0 n dk os g hlg hg)).trans hc
  have h2 : MapIs (sortWorld encP w blk 0 n dk os) Tryz.prog 9 m (encC l) := hm.of_block (sortWorld_block encP w blk 0 n dk os m hm.lt hmb)
  refine (top1_any l x.1 y.1 x.2 y.2 g m _ h1 h2).mono ?_
  rintro e w' ⟨rfl, o, rfl⟩
  exact ⟨rfl, 0, #[o], alloc_eq_grow _ o⟩
set_option maxHeartbeats 1000000 in
theorem sort_paths (l : List En) (hl : ∀ p ∈ uniq l, p.size ≤ maxLen) (hl2 : (uniq l).length ≤ 1000) (g m gb cap : Nat) (w : World) (hc : w.cell? ⟨g, 0, none⟩ = some (.map (some m))) (hm : MapIs w Tryz.prog 9 m (encC l)) (hg : g ≠ gb) (hmb : m ≠ gb)
    (hb : gb < w.heap.size) (hrow : ∀ i (hi : i < (uniq l).length), w.cell? ⟨gb, i, none⟩ = some (.string (uniq l)[i])) (hfz : ∀ i, w.frozen? ⟨gb, i, none⟩ = false) :
    Calls Tryz.prog 31 #[.slice (some ⟨gb, 0, none⟩) (uniq l).length cap, .func (.func 32) #[] #[.pointer (some ⟨g, 0, none⟩)]] w fun e w' => e = .returned (.tuple #[]) ∧ ∃ qs : List ByteArray, qs.Perm (uniq l) ∧ qs.Pairwise (Ahead l) ∧
      (∀ i (hi : i < qs.length), w'.cell? ⟨gb, i, none⟩ = some (.string qs[i])) ∧ (∀ B, B ≤ gb → Below B w w') ∧ gb < w'.heap.size := by
  have eg : ∀ args w, (callFunc 32 args).run Tryz.prog w = .ok (.enter 32 args) w := enters_of Tryz.func32 (by kernel_rfl) rfl
  obtain ⟨d, hd⟩ : ∃ d : Array PS, (listS (uniq l) hl).toArray = d := ⟨_, rfl⟩
  have hsz : d.size = (uniq l).length := by rw [← hd]; simp [listS_len]
  have hH : Holds encP w gb 0 d := by
    intro j hj
    rw [hsz] at hj
    refine ⟨?_, hfz _⟩
    rw [Nat.zero_add, hrow j hj, ← hd]
    unfold encP
    rw [listS_get _ _ _ hj]
  have hS := Any.slices_SortFunc_total Tryz.sortF encP (fun _ => rfl) (cfPS l) (swoS l) 32 #[.pointer (some ⟨g, 0, none⟩)] gb 0 cap d w eg (cmpLays_top l g m gb d.size w hc hm hg hmb) hH hb (by omega) (totS l)
  change Calls Tryz.prog 31 _ _ _ at hS
  rw [hsz] at hS
  refine hS.mono ?_
  rintro e w' ⟨rfl, n, os, rfl⟩
  obtain ⟨q, hq⟩ : ∃ q : List PS, (d.toList.mergeSort fun x y => !ltOf (cfPS l) y x) = q := ⟨_, rfl⟩
  have hperm : q.Perm d.toList := by rw [← hq]; exact List.mergeSort_perm _ _
  have hql : q.length = (uniq l).length := by rw [hperm.length_eq]; simpa using hsz
  have hsorted : q.Pairwise fun x y => (!ltOf (cfPS l) y x) = true := by
    rw [← hq]
    apply List.pairwise_mergeSort
    · intro a b c h1 h2
      have h1' : ltOf (cfPS l) b a = false := by simpa using h1
      have h2' : ltOf (cfPS l) c b = false := by simpa using h2
      simpa using (swoS l).ntrans c b a h2' h1'
    · intro a b
      by_cases h : ltOf (cfPS l) b a = true
      · by_cases k : ltOf (cfPS l) a b = true
        · have := (swoS l).trans a b a k h
          rw [(swoS l).irrefl a] at this; cases this
        · simp [h, k]
      · simp [h]
  have hp2 : (q.map (·.1)).Perm (uniq l) := by
    refine (hperm.map _).trans ?_
    rw [← hd]
    show ((listS (uniq l) hl).map (·.1)).Perm _
    rw [listS_map]
  refine ⟨rfl, q.map (·.1), hp2, ?_, ?_, ?_, ?_⟩
  · have hnd : (q.map (·.1)).Nodup := hp2.nodup_iff.2 (nodup_uniq l)
    rw [List.pairwise_map]
    have hnd2 : q.Pairwise fun x y => x.1 ≠ y.1 := by
      have := List.pairwise_map.1 hnd; exact this
    refine (hsorted.and hnd2).imp ?_
    rintro a b ⟨h1, h2⟩
    have h1' : ltOf (cfPS l) b a = false := by simpa using h1
    by_cases h : Ahead l a.1 b.1
    · exact h
    · exfalso
      refine h2 (ahead_total h fun k => ?_)
      rw [(lt_iffS l b a).2 k] at h1'; cases h1'
  · intro i hi
    rw [List.length_map] at hi
    rw [hq]
    have hH2 : Holds encP (Sort.ahead w n) gb 0 d := holds_ahead _ _ _ _ _ _ hH
    have e1 := cell?_putRow encP (Sort.ahead w n) gb 0 d q.toArray hH2 (by simp; rw [hql, hsz]) i (by simpa using hi)
    unfold sortWorld
    rw [cell?_grow _ _ _ (by rw [size_putRow]; exact hb)]
    rw [Nat.zero_add] at e1
    rw [e1]
    unfold encP
    have e2 : q.toArray[i]! = q[i] := by rw [getElem!_pos _ _ (by simpa using hi)]; simp
    rw [e2, List.getElem_map]
  · intro B hB
    exact ⟨rfl, rfl, rfl, sortWorld_size _ _ _ _ _ _ _, fun k hk => sortWorld_block _ _ _ _ _ _ _ _ (by omega) (by omega)⟩
  · exact Nat.lt_of_lt_of_le hb (sortWorld_size _ _ _ _ _ _ _)
end Go.Proofs.YtcpkikillmmjcaaGreatDoor.LogC
