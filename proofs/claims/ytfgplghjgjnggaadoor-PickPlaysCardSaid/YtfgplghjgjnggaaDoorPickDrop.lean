/-
  pick.Drop over this seat's translation.
  Conditions: where the state lies.
-/
import Derived.Test.YtfgplghjgjnggaaDoorPick
namespace Go.Proofs.YtfgplghjgjnggaaDoor.PickC
open Go.RowKit MapsL ModL
set_option linter.unusedSimpArgs false
set_option linter.unusedVariables false

theorem delA_encP (l : List Ent) (id : Int) : delA (encP l) (.int .i64 id) = encP (l.filter fun e => !(e.id == id)) := by
  induction l with
  | nil => rfl
  | cons x l ih =>
    have e : encP (x :: l) = (.int .i64 x.id, .pointer (some ⟨x.a, 0, none⟩)) :: encP l := rfl
    have hs : (Lit.int .i64 x.id).sameKey (.int .i64 id) = (x.id == id) := by rw [show (Lit.int .i64 x.id).sameKey (.int .i64 id) = decide (x.id = id) by simp [Lit.sameKey]]; rfl
    rw [e, delA, List.filter_cons, List.filter_cons, hs]
    have ih' : List.filter (fun p => !p.1.sameKey (.int .i64 id)) (encP l) = encP (l.filter fun e => !(e.id == id)) := ih
    by_cases h : (x.id == id) = true
    · simp [h, ih']
    · simp only [Bool.not_eq_true] at h
      simp only [h, Bool.not_false, if_true, ih']
      rfl
theorem mod_turned {w w' : World} {m : Nat} (h : w.mapTurned w' m) : Mod (fun k => k = m) w w' := by
  obtain ⟨es, clock, es', clock', h1, rfl⟩ := h
  refine ⟨rfl, rfl, rfl, by simp [Go.ChangeMaps.setBlock], fun k hk hn => ?_⟩
  simp only [Go.ChangeMaps.setBlock]
  rw [Array.getElem?_setIfInBounds_ne (fun e => hn e.symm)]
theorem drop_none {b m : Nat} {l : List Ent} {w : World} (h : IsPick w b m l) (id : Int) (hid : -9223372036854775808 ≤ id ∧ id ≤ 9223372036854775807) (hx : findE l id = none) :
    Calls Tryd.prog 9 #[.pointer (some ⟨b, 0, none⟩), .int .i64 id] w fun e w' => e = .returned (.iface 70 (.int .i64 5)) ∧ w = w' := by
  have HG := Lib.hid (get_none h id hid hx)
  clear h hx
  go_enter Tryd.func9, Tryd.ntmps9
  go_wp2_with (go_at_call 28; refine HG.out.mono ?_; rintro e w1 ⟨rfl, rfl⟩)
  go_ret
  exact ⟨rfl, rfl⟩
set_option maxRecDepth 100000 in
set_option maxHeartbeats 2000000 in
theorem drop_some {b m : Nat} {l : List Ent} {w : World} (h : IsPick w b m l) (id : Int) (hid : -9223372036854775808 ≤ id ∧ id ≤ 9223372036854775807) (x : Ent) (hx : findE l id = some x) :
    Calls Tryd.prog 9 #[.pointer (some ⟨b, 0, none⟩), .int .i64 id] w fun e w' => e = .returned .nilIface ∧ IsPick w' b m (l.filter fun e => !(e.id == id)) ∧ Mod (fun k => k = m) w w' := by
  have HG := Lib.hid (get_some h id hid x hx)
  have H := Lib.hid h
  have hc0 := h.c0
  have HM := Lib.hid h.map
  have hkey := Maps.keyOf_int_mk Tryd.underlying3 (WalkArith.wf_i64 hid)
  have HKEY := Lib.hid hkey
  clear h hx hkey
  go_enter Tryd.func9, Tryd.ntmps9
  go_wp2_with (first
    | (go_at_call 28; refine HG.out.mono ?_; rintro e w1 ⟨rfl, rfl⟩)
    | (at_delete; refine MapsL.wpList_del rfl _ _ 67 3 rfl 72 law Tryd.underlying67 m _ rfl HM.out _ _ rfl HKEY.out ?_; intro w2 hm2 ht2; have HM2 := Lib.hid hm2; have HT2 := Lib.hid ht2; clear hm2 ht2))
  go_ret
  have hM := mod_turned HT2.out
  have hl := H.out.lt
  refine ⟨rfl, ⟨by rw [← delA_encP]; exact HM2.out, (hM.cell (p := ⟨b, 0, none⟩) hl.1 H.out.ne).trans H.out.c0, H.out.ne, fun e he => ?_, ?_⟩, hM⟩
  · have hE := H.out.ents e (List.mem_filter.1 he).1
    exact hE.of_block (hM.block _ hE.lt hE.nm)
  · exact H.out.apart.filter _
end Go.Proofs.YtfgplghjgjnggaaDoor.PickC
