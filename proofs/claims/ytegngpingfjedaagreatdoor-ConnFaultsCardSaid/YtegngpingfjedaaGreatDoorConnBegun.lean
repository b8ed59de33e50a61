/-
  begun: a connection that heard Set.
  Conditions: none.
-/
import Derived.Test.YtegngpingfjedaaGreatDoorConnFeeds
import Derived.Test.YtegngpingfjedaaGreatDoorConnNew
namespace Go.Proofs.YtegngpingfjedaaGreatDoor.ConnS
open Go.RowKit ModL ConnR BA WireBig SlicesB FrameC FrameP
set_option linter.unusedVariables false
set_option linter.unusedSimpArgs false

theorem bytes_of_blockC {w w' : World} {v : Value} {l : List Int} (h : BytesAt w v l) (hb : ∀ g, v.ownBlock = some g → w'.heap[g]? = w.heap[g]?) (hs : w.heap.size ≤ w'.heap.size) : BytesAt w' v l := by
  obtain ⟨a, cap, rfl, h1, h2, h3, h4⟩ := h
  refine ⟨a, cap, rfl, h1, h2, h3, fun i hi => ?_⟩
  obtain ⟨b, off, rfl, hlt, hc⟩ := h4 i hi
  exact ⟨b, off, rfl, by omega, (World.cell?_of_block (a := ⟨b, off + i, none⟩) (hb b rfl)).trans hc⟩
theorem nilAt (W : World) : BytesAt W (.slice none 0 0) [] := ⟨none, 0, rfl, by simp [BytesL.valB], by simp, by simp, by simp [BytesL.valB]⟩
theorem touch_below {base g B : Nat} {w0 w1 w2 : World} {cs : Nat → Value} {inn out : List Int} (h : Cn base w1 g cs inn out) (hM : Mod (Touch g cs) w1 w2) (hB : Below B w0 w1) (hBs : B ≤ w1.heap.size) (hg : B ≤ g) : Below B w0 w2 := by
  refine hB.trans (hM.toBelow (B := B) hBs ?_)
  have h1 := h.gb
  rintro k hk (e | e | e)
  · omega
  · have := (ownB_lt h.i k e.symm).1; omega
  · have := (ownB_lt h.o k e.symm).1; omega
/-- What a connection points to: streams at st, none of them seen; channels at m, none of them there. -/
def StM (B g st m : Nat) (w : World) : Prop := (∃ ms, StreamsC.IsStreams w st ms [] 0 ∧ (B ≤ st ∧ st < g) ∧ (B ≤ ms ∧ ms < g)) ∧ MapsL.MapIs w Tryz.prog 3 m [] ∧ B ≤ m ∧ m < g
theorem StM.below {B g st m : Nat} {w w' : World} (h : StM B g st m w) (hB : Below g w w') : StM B g st m w' := by
  obtain ⟨⟨ms, hS, h1, h2⟩, hM, h3, h4⟩ := h
  exact ⟨⟨ms, hS.below hB h1.2 h2.2, h1, h2⟩, hM.below hB h4, h3, h4⟩
/-- The cells that a frame without a body leaves as they are. -/
def Same (cs cs2 : Nat → Value) : Prop := ∀ i, i ≠ 4 → i ≠ 5 → i ≠ 10 → i ≠ 13 → cs2 i = cs i
theorem feed_set2 {base g : Nat} {w : World} {cs : Nat → Value} {out : List Int} {bg : Bool} (h : Cn base w g cs [] out) (hc : Calm cs bg) (hlen : out.length ≤ 1099511627776) (v : Value) (hv : BytesAt w v (Fr.mk 4 0 0 []).bytes) :
    Calls Tryz.prog 12 #[.pointer (some ⟨g, 0, none⟩), v] w fun e w' => ∃ cs2, e = .returned (.slice none 0 0) ∧ Cn base w' g cs2 [] (out ++ (Fr.mk 4 1 0 []).bytes) ∧ Calm cs2 true ∧ Same cs cs2 ∧ Mod (Touch g cs) w w' := by
  refine (feed_one h hc.c11 (Fr.mk 4 0 0 []) ⟨by simp [Fr.inRange], by simp⟩ (fun z hz => absurd hz (by simp)) v hv (fun cs2 out2 _ => out2 = out ++ (Fr.mk 4 1 0 []).bytes ∧ (Calm cs2 true ∧ Same cs cs2) ∧ cs2 13 = .slice none 0 0) (fun _ _ _ _ hq _ => hq) ?_).mono ?_
  · rintro W vb v4 hO hC hX hne ⟨a, c, rfl⟩ hM
    have hcal := ((hc.upd 4 v4 (by decide) (by decide) (by decide) (by decide)).upd 13 (.slice none 0 0) (by decide) (by decide) (by decide) (by decide))
    refine (hear_set hC hcal.c3 ⟨_, hcal.c10⟩ hcal.c12 hlen a c).mono ?_
    rintro e w' ⟨rfl, v5, hC5, hM5⟩
    have hcal2 := hcal.begin.upd 5 v5 (by decide) (by decide) (by decide) (by decide)
    have h13 : ConnR.upd (ConnR.upd (ConnR.upd (ConnR.upd cs 4 v4) 13 (.slice none 0 0)) 10 (.bool true)) 5 v5 13 = .slice none 0 0 := rfl
    refine ⟨rfl, _, _, false, hC5, hcal2.c11, ⟨none, 0, 0, h13⟩, ⟨rfl, ⟨hcal2, fun i h4 h5 h10 h13 => ?_⟩, h13⟩, hM5.mono (fun k _ hk => ?_)⟩
    · rw [upd_other _ _ h5, upd_other _ _ h10, upd_other _ _ h13, upd_other _ _ h4]
    · rcases hk with e | e
      · exact .inl e
      · exact .inr (.inr e)
  · rintro e w' ⟨cs2, out2, a, n, c, rfl, h13, hC, ⟨rfl, ⟨hcal, hsm⟩, h13'⟩, hM⟩
    rw [h13] at h13'
    rw [h13']
    exact ⟨cs2, rfl, hC, hcal, hsm, hM⟩
set_option maxRecDepth 100000 in
set_option maxHeartbeats 8000000 in
theorem begun_any (w : World) : Calls Tryz.prog 8 #[] w fun e w' => ∃ g st m cs, e = .returned (.pointer (some ⟨g, 0, none⟩)) ∧ Cn (g + 1) w' g cs [] [] ∧ Calm cs true ∧ cs 1 = .pointer (some ⟨st, 0, none⟩) ∧ cs 2 = .map (some m) ∧ StM w.heap.size g st m w' ∧ Below w.heap.size w w' ∧ w.heap.size ≤ g := by
  have HCN := Lib.hid (cnew_all w)
  have HSET := Lib.hid (encode_any (Fr.mk 4 0 0 []) (.slice none 0 0))
  go_enter Tryz.func8, Tryz.ntmps8
  go_wp2_with fail
  refine HCN.out.mono ?_
  rintro e w1 ⟨g, co, st, m, v1, rfl, hC1, hB1, hg1, hS1, hM1, -⟩
  have HC1 := Lib.hid hC1
  have HB1 := Lib.hid hB1
  have HG1 := Lib.hid hg1
  have HS1 : Hid (StM w.heap.size g st m w1) := ⟨hS1, hM1⟩
  have hcal1 : ConnS.Calm (upd (csN co st m) 5 v1) false := ⟨rfl, rfl, rfl, rfl⟩
  have HCAL1 := Lib.hid hcal1
  clear hC1 hB1 hg1 hS1 hM1 hcal1
  go_wp2_with fail
  refine (HSET.out w1 (nilAt w1)).mono ?_
  rintro e w5 ⟨hB5, ⟨hno, -⟩ | ⟨-, hno, -⟩ | ⟨-, -, v5, rfl, hO5⟩⟩
  · exact absurd (by simp [Fr.inRange]) hno
  · exact absurd hno (by simp)
  obtain ⟨a5, k5, rfl, -⟩ := hO5.slice
  have HC5 := Lib.hid (HC1.out.below hB5)
  have HB5 := Lib.hid (HB1.out.trans (hB5.mono HB1.out.size))
  have HS5 := Lib.hid (HS1.out.below (hB5.mono (Nat.le_of_lt HC1.out.r.lt)))
  have HFD := Lib.hid (feed_set2 HC5.out HCAL1.out (by decide) _ (BytesAt.of_own hO5))
  clear hB5 hO5
  generalize (Fr.mk 4 0 0 []).bytes.length = n5 at *
  go_wp2_with fail
  refine HFD.out.mono ?_
  rintro e w6 ⟨cs6, rfl, hC6, hcal6, hsm6, hM6⟩
  have HC6 := Lib.hid hC6
  have HCAL6 := Lib.hid hcal6
  have HSM6 := Lib.hid hsm6
  have HB6 := Lib.hid (touch_below HC5.out hM6 HB5.out HB5.out.size HG1.out)
  have HS6 := Lib.hid (HS5.out.below (touch_below HC5.out hM6 (Below.refl g w5) (Nat.le_of_lt HC5.out.r.lt) (Nat.le_refl g)))
  clear hC6 hcal6 hM6 hsm6
  go_wp2_with fail
  refine (out_any HC6.out).mono ?_
  rintro e w7 ⟨a7, n7, c7, rfl, -, -, -, hC7, hw7⟩
  have HC7 := Lib.hid hC7
  have HW7 := Lib.hid hw7
  clear hC7 hw7
  go_wp2_with fail
  go_ret
  have hB7 : Below w.heap.size w w7 := by rw [HW7.out]; exact HB6.out.setCell HG1.out _
  have hS7 : Below g w6 w7 := by rw [HW7.out]; exact (Below.refl g w6).setCell (p := ⟨g, 5, none⟩) (Nat.le_refl g) _
  refine ⟨g, st, m, _, rfl, HC7.out, HCAL6.out.upd 5 _ (by decide) (by decide) (by decide) (by decide), ?_, ?_, HS6.out.below hS7, hB7, HG1.out⟩
  · rw [upd_other _ _ (by decide), HSM6.out 1 (by decide) (by decide) (by decide) (by decide)]; rfl
  · rw [upd_other _ _ (by decide), HSM6.out 2 (by decide) (by decide) (by decide) (by decide)]; rfl
end Go.Proofs.YtegngpingfjedaaGreatDoor.ConnS
