/-
  Feed of Set, Ping, Bye, and of a kind that is not known, one frame at a time.
  Conditions: nothing waits, no head is half heard.
-/
import Derived.Test.YtegngpingfjedaaGreatDoorConnFeed
import Derived.Test.YtegngpingfjedaaGreatDoorConnBye
namespace Go.Proofs.YtegngpingfjedaaGreatDoor.ConnS
open Go.RowKit ModL ConnR BA WireBig SlicesB FrameC FrameP
set_option linter.unusedVariables false
set_option linter.unusedSimpArgs false

/-- Nothing waits, it is not over, no head is half heard; whether it began. -/
structure Calm (cs : Nat → Value) (bg : Bool) : Prop where
  c3 : cs 3 = .slice none 0 0
  c10 : cs 10 = .bool bg
  c11 : cs 11 = .bool false
  c12 : cs 12 = .pointer none
theorem Calm.upd {cs : Nat → Value} {bg : Bool} (h : Calm cs bg) (i : Nat) (v : Value) (h3 : i ≠ 3) (h10 : i ≠ 10) (h11 : i ≠ 11) (h12 : i ≠ 12) : Calm (upd cs i v) bg :=
  ⟨by rw [upd_other _ _ h3.symm]; exact h.c3, by rw [upd_other _ _ h10.symm]; exact h.c10, by rw [upd_other _ _ h11.symm]; exact h.c11, by rw [upd_other _ _ h12.symm]; exact h.c12⟩
theorem Calm.begin {cs : Nat → Value} {bg : Bool} (h : Calm cs bg) : Calm (ConnR.upd cs 10 (.bool true)) true :=
  ⟨by rw [upd_other _ _ (by decide)]; exact h.c3, upd_same _ _ _, by rw [upd_other _ _ (by decide)]; exact h.c11, by rw [upd_other _ _ (by decide)]; exact h.c12⟩
section
variable {base g : Nat} {w : World} {cs : Nat → Value} {out : List Int} {bg : Bool}
theorem feed_set (h : Cn base w g cs [] out) (hc : Calm cs bg) (hlen : out.length ≤ 1099511627776) (v : Value) (hv : BytesAt w v (Fr.mk 4 0 0 []).bytes) :
    Calls Tryz.prog 12 #[.pointer (some ⟨g, 0, none⟩), v] w fun e w' => ∃ cs2, e = .returned (.slice none 0 0) ∧ Cn base w' g cs2 [] (out ++ (Fr.mk 4 1 0 []).bytes) ∧ Calm cs2 true ∧ Mod (Touch g cs) w w' := by
  refine (feed_one h hc.c11 (Fr.mk 4 0 0 []) ⟨by simp [Fr.inRange], by simp⟩ (fun z hz => absurd hz (by simp)) v hv (fun cs2 out2 _ => out2 = out ++ (Fr.mk 4 1 0 []).bytes ∧ Calm cs2 true ∧ cs2 13 = .slice none 0 0) (fun _ _ _ _ hq _ => hq) ?_).mono ?_
  · rintro W vb v4 hO hC hX hne ⟨a, c, rfl⟩ hM
    have hcal := ((hc.upd 4 v4 (by decide) (by decide) (by decide) (by decide)).upd 13 (.slice none 0 0) (by decide) (by decide) (by decide) (by decide))
    refine (hear_set hC hcal.c3 ⟨_, hcal.c10⟩ hcal.c12 hlen a c).mono ?_
    rintro e w' ⟨rfl, v5, hC5, hM5⟩
    have hcal2 := hcal.begin.upd 5 v5 (by decide) (by decide) (by decide) (by decide)
    have h13 : ConnR.upd (ConnR.upd (ConnR.upd (ConnR.upd cs 4 v4) 13 (.slice none 0 0)) 10 (.bool true)) 5 v5 13 = .slice none 0 0 := rfl
    refine ⟨rfl, _, _, false, hC5, hcal2.c11, ⟨none, 0, 0, h13⟩, ⟨rfl, hcal2, h13⟩, hM5.mono (fun k _ hk => ?_)⟩
    rcases hk with e | e
    · exact .inl e
    · exact .inr (.inr e)
  · rintro e w' ⟨cs2, out2, a, n, c, rfl, h13, hC, ⟨rfl, hcal, h13'⟩, hM⟩
    rw [h13] at h13'
    rw [h13']
    exact ⟨cs2, rfl, hC, hcal, hM⟩
theorem feed_ping (h : Cn base w g cs [] out) (hc : Calm cs true) (hlen : out.length ≤ 1099511627776) (l : List Int) (hl : l.length = 8) (hby : Args.ByteL l) (v : Value) (hv : BytesAt w v (Fr.mk 5 0 0 l).bytes) :
    Calls Tryz.prog 12 #[.pointer (some ⟨g, 0, none⟩), v] w fun e w' => ∃ cs2, e = .returned (.slice none 0 0) ∧ Cn base w' g cs2 [] (out ++ (Fr.mk 5 1 0 l).bytes) ∧ Calm cs2 true ∧ Mod (Touch g cs) w w' := by
  refine (feed_one h hc.c11 (Fr.mk 5 0 0 l) ⟨by simp [Fr.inRange], by show l.length ≤ 1024; omega⟩ hby v hv (fun cs2 out2 _ => out2 = out ++ (Fr.mk 5 1 0 l).bytes ∧ Calm cs2 true ∧ cs2 13 = .slice none 0 0) (fun _ _ _ _ hq _ => hq) ?_).mono ?_
  · rintro W vb v4 hO hC hX hne ⟨a, c, rfl⟩ hM
    have e8 : (Fr.mk 5 0 0 l).body.length = 8 := hl
    rw [e8] at hX hne ⊢
    have hcal := ((hc.upd 4 v4 (by decide) (by decide) (by decide) (by decide)).upd 13 (.slice none 0 0) (by decide) (by decide) (by decide) (by decide))
    refine (hear_ping hC hcal.c3 hcal.c10 hcal.c12 hlen a c l hl hX hne).mono ?_
    rintro e w' ⟨rfl, v5, hC5, hM5⟩
    have hcal2 := hcal.begin.upd 5 v5 (by decide) (by decide) (by decide) (by decide)
    have h13 : ConnR.upd (ConnR.upd (ConnR.upd (ConnR.upd cs 4 v4) 13 (.slice none 0 0)) 10 (.bool true)) 5 v5 13 = .slice none 0 0 := rfl
    refine ⟨rfl, _, _, false, hC5, hcal2.c11, ⟨none, 0, 0, h13⟩, ⟨rfl, hcal2, h13⟩, hM5.mono (fun k _ hk => ?_)⟩
    rcases hk with e | e
    · exact .inl e
    · exact .inr (.inr e)
  · rintro e w' ⟨cs2, out2, a, n, c, rfl, h13, hC, ⟨rfl, hcal, h13'⟩, hM⟩
    rw [h13] at h13'
    rw [h13']
    exact ⟨cs2, rfl, hC, hcal, hM⟩
theorem feed_other (h : Cn base w g cs [] out) (hc : Calm cs true) (hlen : out.length ≤ 1099511627776) (f : Fr) (hgd : good f) (hby : Args.ByteL f.body) (hk : 8 ≤ f.kind) (v : Value) (hv : BytesAt w v f.bytes) :
    Calls Tryz.prog 12 #[.pointer (some ⟨g, 0, none⟩), v] w fun e w' => ∃ cs2, e = .returned (.slice none 0 0) ∧ Cn base w' g cs2 [] out ∧ Calm cs2 true ∧ Mod (Touch g cs) w w' := by
  refine (feed_one h hc.c11 f hgd hby v hv (fun cs2 out2 _ => out2 = out ∧ Calm cs2 true ∧ cs2 13 = .slice none 0 0) (fun _ _ _ _ hq _ => hq) ?_).mono ?_
  · rintro W vb v4 hO hC hX hne ⟨a, c, rfl⟩ hM
    have hcal := ((hc.upd 4 v4 (by decide) (by decide) (by decide) (by decide)).upd 13 (.slice none 0 0) (by decide) (by decide) (by decide) (by decide))
    refine (hear_other hC hcal.c3 hcal.c10 hcal.c12 hlen a c f.kind f.flags f.stream f.body hk).mono ?_
    rintro e w' ⟨rfl, hC5, hM5⟩
    have hcal2 := hcal.begin
    have h13 : ConnR.upd (ConnR.upd (ConnR.upd cs 4 v4) 13 (.slice none 0 0)) 10 (.bool true) 13 = .slice none 0 0 := rfl
    exact ⟨rfl, _, _, false, hC5, hcal2.c11, ⟨none, 0, 0, h13⟩, ⟨rfl, hcal2, h13⟩, hM5.mono (fun k _ hk => .inl hk)⟩
  · rintro e w' ⟨cs2, out2, a, n, c, rfl, h13, hC, ⟨rfl, hcal, h13'⟩, hM⟩
    rw [h13] at h13'
    rw [h13']
    exact ⟨cs2, rfl, hC, hcal, hM⟩
theorem oneE_below {w w' : World} {b : Nat} {wh st cd : Int} {en : Bool} (h : OneE w b wh st cd en) (hB : Below w.heap.size w w') : OneE w' b wh st cd en := by
  obtain ⟨a, b', c, d⟩ := h
  exact ⟨(hB.cell (p := ⟨b, 0, none⟩) d).trans a, (hB.cell (p := ⟨b, 1, none⟩) d).trans b', (hB.cell (p := ⟨b, 2, none⟩) d).trans c, Nat.lt_of_lt_of_le d hB.size⟩
theorem feed_bye (h : Cn base w g cs [] out) (hc : Calm cs true) (hlen : out.length ≤ 1099511627776) (z0 z1 z2 z3 x0 x1 x2 x3 : Int) (h0 : 0 ≤ x0 ∧ x0 ≤ 255) (h1 : 0 ≤ x1 ∧ x1 ≤ 255) (h2 : 0 ≤ x2 ∧ x2 ≤ 255) (h3 : 0 ≤ x3 ∧ x3 ≤ 255) (hby : Args.ByteL [z0, z1, z2, z3, x0, x1, x2, x3]) (v : Value) (hv : BytesAt w v (Fr.mk 6 0 0 [z0, z1, z2, z3, x0, x1, x2, x3]).bytes) :
    Calls Tryz.prog 12 #[.pointer (some ⟨g, 0, none⟩), v] w fun e w' => ∃ cs2 b c, e = .returned (.slice (some ⟨b, 0, none⟩) 1 c) ∧ OneE w' b 5 0 (x0 * 16777216 + x1 * 65536 + x2 * 256 + x3) false ∧ Cn base w' g cs2 [] out ∧ Calm cs2 true ∧ Mod (Touch g cs) w w' := by
  refine (feed_one h hc.c11 (Fr.mk 6 0 0 [z0, z1, z2, z3, x0, x1, x2, x3]) ⟨by simp [Fr.inRange], by simp⟩ hby v hv (fun cs2 out2 W => out2 = out ∧ Calm cs2 true ∧ ∃ b c, cs2 13 = .slice (some ⟨b, 0, none⟩) 1 c ∧ OneE W b 5 0 (x0 * 16777216 + x1 * 65536 + x2 * 256 + x3) false) (fun _ _ _ _ hq hB => ⟨hq.1, hq.2.1, by obtain ⟨b, c, e, ho⟩ := hq.2.2; exact ⟨b, c, e, oneE_below ho hB⟩⟩) ?_).mono ?_
  · rintro W vb v4 hO hC hX hne ⟨a, c, rfl⟩ hM
    have hcal := ((hc.upd 4 v4 (by decide) (by decide) (by decide) (by decide)).upd 13 (.slice none 0 0) (by decide) (by decide) (by decide) (by decide))
    refine (hear_bye hC hcal.c3 hcal.c10 hcal.c12 hlen a c z0 z1 z2 z3 x0 x1 x2 x3 h0 h1 h2 h3 rfl hX hne).mono ?_
    rintro e w' ⟨rfl, b, c', hC5, hE5, hb5, hM5⟩
    have hcal2 := hcal.begin.upd 13 (.slice (some ⟨b, 0, none⟩) 1 c') (by decide) (by decide) (by decide) (by decide)
    exact ⟨rfl, _, _, false, hC5, hcal2.c11, ⟨some ⟨b, 0, none⟩, 1, c', rfl⟩, ⟨rfl, hcal2, b, c', rfl, hE5⟩, hM5.mono (fun k _ hk => .inl hk)⟩
  · rintro e w' ⟨cs2, out2, a, n, c, rfl, h13, hC, ⟨rfl, hcal, b, c', h13', hE⟩, hM⟩
    rw [h13] at h13'
    rw [h13']
    exact ⟨cs2, b, c', rfl, hE, hC, hcal, hM⟩
end
end Go.Proofs.YtegngpingfjedaaGreatDoor.ConnS
