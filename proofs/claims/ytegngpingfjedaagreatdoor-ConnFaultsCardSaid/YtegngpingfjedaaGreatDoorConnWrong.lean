/-
  Feed of a frame that is wrong, or that comes ahead of Set: it is told, said, and the connection is over.
  Conditions: nothing waits, no head is half heard; the streams lie ahead of the connection.
-/
import Derived.Test.YtegngpingfjedaaGreatDoorConnHearM
import Derived.Test.YtegngpingfjedaaGreatDoorConnFeedF
import Derived.Test.YtegngpingfjedaaGreatDoorConnBegun
namespace Go.Proofs.YtegngpingfjedaaGreatDoor.ConnS
open Go.RowKit ModL ConnR BA WireBig SlicesB FrameC FrameP
set_option linter.unusedVariables false
set_option linter.unusedSimpArgs false

theorem feed_wrong {base g : Nat} {w : World} {cs : Nat → Value} {out : List Int} {bg : Bool} (h : Cn base w g cs [] out) (hc : Calm cs bg) (st ms : Nat) (ls : List (Int × Int)) (last : Int) (h1 : cs 1 = .pointer (some ⟨st, 0, none⟩)) (hS : StreamsC.IsStreams w st ms ls last) (hst : st < g) (hms : ms < g) (hla : 0 ≤ last ∧ last ≤ 2147483647) (hlen : out.length ≤ 1099511627776)
    (f : Fr) (hgd : good f) (hby : Args.ByteL f.body) (rest : List Int) (hrb : Args.ByteL rest) (hrl : (f.bytes ++ rest).length ≤ 140737488355327) (v : Value) (hv : BytesAt w v (f.bytes ++ rest)) (code : Int) (hway : (bg = false ∧ f.kind ≠ 4 ∧ code = 1) ∨ ((bg = true ∨ f.kind = 4) ∧ checkS f = code ∧ code ≠ 0)) :
    Calls Tryz.prog 12 #[.pointer (some ⟨g, 0, none⟩), v] w fun e w' => ∃ cs2 b c, e = .returned (.slice (some ⟨b, 0, none⟩) 1 c) ∧ OneE w' b 4 0 code false ∧ g < b ∧ Cn base w' g cs2 rest (out ++ (byeF last code).bytes) ∧ cs2 11 = .bool true ∧ cs2 2 = cs 2 ∧ Mod (Touch g cs) w w' := by
  have hgb := h.gb
  have hT : ∀ k, k < g → ¬ Touch g cs k := by
    rintro k hk (e | e | e)
    · omega
    · have := (ownB_lt h.i k e.symm).1; omega
    · have := (ownB_lt h.o k e.symm).1; omega
  refine (feed_fail h hc.c11 f hgd hby rest hrb hrl v hv (fun cs2 out2 W => out2 = out ++ (byeF last code).bytes ∧ (cs2 11 = .bool true ∧ cs2 2 = cs 2) ∧ ∃ b c, cs2 13 = .slice (some ⟨b, 0, none⟩) 1 c ∧ OneE W b 4 0 code false ∧ g < b) (fun cs2 out2 W W' hq hB => ⟨hq.1, hq.2.1, by obtain ⟨b, c, e, ho, hgb⟩ := hq.2.2; exact ⟨b, c, e, oneE_below ho hB, hgb⟩⟩) ?_).mono ?_
  · rintro W vb v4 hO hC hX hne ⟨a, c, rfl⟩ hM
    have hcal := ((hc.upd 4 v4 (by decide) (by decide) (by decide) (by decide)).upd 13 (.slice none 0 0) (by decide) (by decide) (by decide) (by decide))
    refine (hear_fail hC bg hcal.c10 hcal.c12 rfl st ms ls last (by rw [upd_other _ _ (by decide), upd_other _ _ (by decide)]; exact h1) (hS.mod hM (hT st hst) (hT ms hms)) (by omega) (by omega) hla hlen f a c hgd.1.2.1 hgd.2 hby hX code hway).mono ?_
    rintro e w' ⟨rfl, b, c', v5, hC5, hE5, hb5, hM5⟩
    refine ⟨rfl, _, _, hC5, upd_same _ _ _, ⟨some ⟨b, 0, none⟩, 1, c', rfl⟩, ⟨rfl, ⟨upd_same _ _ _, rfl⟩, b, c', rfl, hE5, Nat.lt_of_lt_of_le hC.r.lt hb5⟩, hM5.mono (fun k _ hk => ?_)⟩
    rcases hk with e | e
    · exact .inl e
    · exact .inr (.inr e)
  · rintro e w' ⟨cs2, out2, a, n, c, rfl, h13, hC, ⟨rfl, ⟨h11, h2⟩, b, c', h13', hE, hgb⟩, hM⟩
    rw [h13] at h13'
    rw [h13']
    exact ⟨cs2, b, c', rfl, hE, hgb, hC, h11, h2, hM⟩
end Go.Proofs.YtegngpingfjedaaGreatDoor.ConnS
