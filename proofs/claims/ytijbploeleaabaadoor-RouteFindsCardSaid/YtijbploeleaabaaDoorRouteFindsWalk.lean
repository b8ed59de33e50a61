/-
  The walk of the law RouteFinds: for all routes, hosts and paths it returns true and writes nothing that was there.
  Conditions: errors.errorType starts as the program's text lays it.
-/
import Derived.Test.YtijbploeleaabaaDoorArgs
import Derived.Test.YtijbploeleaabaaDoorRoutesArg
import Derived.Test.YtijbploeleaabaaDoorRouteRef
import Derived.Test.YtijbploeleaabaaDoorFindRef
import Derived.Test.YtijbploeleaabaaDoorTold
namespace Go.Proofs.YtijbploeleaabaaDoor.WalkRouteFinds
open Go.RowKit RowsK LineC RouteC AfterL ToldC
set_option linter.unusedVariables false
set_option linter.unusedSimpArgs false

theorem bstep {w W W' : World} (h : Below w.heap.size w W) (h2 : Below W.heap.size W W') : Below w.heap.size w W' := h.trans (h2.mono h.size)
set_option maxRecDepth 100000 in
set_option maxHeartbeats 16000000 in
theorem walk (v0 : Value) (l : List RT) (host path : ByteArray) (w : World) (hl : Args.RoutesAt w v0 l) (hh : host.size ≤ maxLen) (hp : path.size ≤ maxLen) (hg : w.cell? ⟨0, 0, none⟩ = some (.iface 105 (.agg #[.pointer (some ⟨4, 26, none⟩)]))) :
    Calls Tryd.prog 5 #[v0, .string host, .string path] w fun e w' => e = .returned (.bool true) ∧ Below w.heap.size w w' := by
  have HGc : ∀ W', Below w.heap.size w W' → W'.cell? ⟨0, 0, none⟩ = some (.iface 105 (.agg #[.pointer (some ⟨4, 26, none⟩)])) := fun W' hB => (hB.cell (p := ⟨0, 0, none⟩) (block_lt_of_cell hg)).trans hg
  have HEK : ∀ k : Int, Hid (∀ W, Below w.heap.size w W → Calls Tryd.prog 13 #[.iface 48 (.int .i64 k), .int .i64 k] W fun e W' => e = .returned (.bool true) ∧ Below W.heap.size W W') := fun k => (fun W hB => (error_any (.err k) k W (HGc W hB)).mono fun e w' h => ⟨by rw [h.1]; simp, h.2⟩)
  have HEN : Hid (∀ W, Below w.heap.size w W → Calls Tryd.prog 13 #[.nilIface, .int .i64 0] W fun e W' => e = .returned (.bool true) ∧ Below W.heap.size W W') := (fun W hB => (error_any .nil 0 W (HGc W hB)).mono fun e w' h => ⟨by rw [h.1]; simp, h.2⟩)
  obtain ⟨hat, hsz⟩ := hl
  have HAT := Lib.hid hat
  have hszp : ∀ r ∈ l, r.path.size ≤ maxLen := fun r hr => (hsz r hr).2.1
  have HRR := Lib.hid (fun (W : World) (hW : Below w.heap.size w W) => rroutes_any _ l W (HAT.out.old hW) hsz)
  have HCK := Lib.hid (fun (W : World) (hW : Below w.heap.size w W) => check_any _ l W (HAT.out.old hW))
  have HF := Lib.hid (fun (W : World) (hW : Below w.heap.size w W) => find_any _ l host path W (HAT.out.old hW) hszp)
  have HRE0 := Lib.hid (fun (W : World) (hW : Below w.heap.size w W) => rest_any _ l host path W (HAT.out.old hW) hszp hp)
  obtain ⟨a, cap, rfl, hcap, hcap2, _⟩ := hat
  have HS : Hid (Below w.heap.size w w) := Below.refl _ _
  clear hsz hszp HGc hg
  by_cases hck : checkE l = 0
  · obtain ⟨h20, hbad⟩ := right_all hck
    have HP := Lib.hid (fun (W : World) (hW : Below w.heap.size w W) => print_ok _ l W (HAT.out.old hW) hck)
    have HPR := Lib.hid (fun (W : World) (hW : Below w.heap.size w W) => rprint_any _ l W (HAT.out.old hW) hck)
    have HFR := Lib.hid (fun (W : World) (hW : Below w.heap.size w W) => rfind_any _ l host path W (HAT.out.old hW) hbad hp)
    generalize printS l = ps at *
    rw [show errV (checkE l) = .nilIface by unfold errV; rw [if_pos hck]] at HCK
    rw [hck] at HRR
    have hfe : findE l host path = (match bestUpto l host path l.length with | none => (0, 5) | some k => (k, 0)) := by unfold findE; rw [if_neg (by simp [hck])]; rfl
    rcases hb : bestUpto l host path l.length with _ | k
    · rw [hb] at hfe HFR
      simp only at hfe
      rw [hfe] at HF HRE0
      change Hid (∀ (W : World), Below w.heap.size w W → Calls Tryd.prog 16 #[.slice a l.length cap, .string host, .string path] W fun e W' => e = .returned (.int .i64 (-1)) ∧ Below W.heap.size W W') at HFR
      change Hid (∀ (W : World), Below w.heap.size w W → Calls Tryd.prog 7 #[.slice a l.length cap, .string host, .string path] W fun e W' => e = .returned (.tuple #[.int .i64 0, .iface 48 (.int .i64 5)]) ∧ Below W.heap.size W W') at HF
      have HRE := Lib.hid (fun (W : World) (hW : Below w.heap.size w W) => (HRE0.out W hW).mono (R' := fun e w' => e = .returned (.tuple #[.string ⟨#[]⟩, .string ⟨#[]⟩, .iface 48 (.int .i64 5)]) ∧ Below W.heap.size W w') (by
        rintro e w' ⟨hB, ⟨_, rfl⟩ | ⟨k', _, h, _⟩⟩
        · exact ⟨rfl, hB⟩
        · simp at h))
      have HE5 := HEK 5
      clear hck hfe hb hbad HEK HRE0 HAT h20
      go_enter Tryd.func5, Tryd.ntmps5
      go_wp2_with (first
        | (go_at_call 12; (with_reducible refine (HRR.out _ HS.out).mono ?_); rintro e w1 ⟨rfl, hB⟩; replace HS := Lib.hid (bstep HS.out hB); clear hB)
        | (go_at_call 14; (with_reducible refine (HCK.out _ HS.out).mono ?_); rintro e w1 ⟨rfl, hB⟩; replace HS := Lib.hid (bstep HS.out hB); clear hB)
        | (go_at_call 13; (with_reducible refine (HEN.out _ HS.out).mono ?_); rintro e w1 ⟨rfl, hB⟩; replace HS := Lib.hid (bstep HS.out hB); clear hB)
        | (go_at_call 13; (with_reducible refine (HE5.out _ HS.out).mono ?_); rintro e w1 ⟨rfl, hB⟩; replace HS := Lib.hid (bstep HS.out hB); clear hB)
        | (go_at_call 15; (with_reducible refine (HPR.out _ HS.out).mono ?_); rintro e w1 ⟨rfl, hB⟩; replace HS := Lib.hid (bstep HS.out hB); clear hB)
        | (go_at_call 10; (with_reducible refine (HP.out _ HS.out).mono ?_); rintro e w1 ⟨rfl, hB⟩; replace HS := Lib.hid (bstep HS.out hB); clear hB)
        | (go_at_call 16; (with_reducible refine (HFR.out _ HS.out).mono ?_); rintro e w1 ⟨rfl, hB⟩; replace HS := Lib.hid (bstep HS.out hB); clear hB)
        | (go_at_call 7; (with_reducible refine (HF.out _ HS.out).mono ?_); rintro e w1 ⟨rfl, hB⟩; replace HS := Lib.hid (bstep HS.out hB); clear hB)
        | (go_at_call 8; (with_reducible refine (HRE.out _ HS.out).mono ?_); rintro e w1 ⟨rfl, hB⟩; replace HS := Lib.hid (bstep HS.out hB); clear hB))
      go_ret
      exact ⟨by simp, HS.out⟩
    · rw [hb] at hfe HFR
      simp only at hfe
      obtain ⟨hk, hfit⟩ := bestUpto_fits hb
      obtain ⟨ab, off, rfl, hab, hce⟩ := At.elem HAT.out k hk
      obtain ⟨c0, c1, c2⟩ := hce k hk
      have hbk : badR (l.getD k default) = false := by rw [show l.getD k default = l[k] by simp [List.getD, List.getElem?_eq_getElem hk]]; exact hbad _ (List.getElem_mem hk)
      have HRS := Lib.hid (fun (W : World) => rrest_any (l.getD k default) host path W hbk hfit hp)
      rw [hfe] at HF
      change Hid (∀ (W : World), Below w.heap.size w W → Calls Tryd.prog 16 #[.slice (some ⟨ab, off, none⟩) l.length cap, .string host, .string path] W fun e W' => e = .returned (.int .i64 k) ∧ Below W.heap.size W W') at HFR
      change Hid (∀ (W : World), Below w.heap.size w W → Calls Tryd.prog 7 #[.slice (some ⟨ab, off, none⟩) l.length cap, .string host, .string path] W fun e W' => e = .returned (.tuple #[.int .i64 k, .nilIface]) ∧ Below W.heap.size W W') at HF
      have HRE := Lib.hid (fun (W : World) (hW : Below w.heap.size w W) => (HRE0.out W hW).mono (R' := fun e w' => e = .returned (.tuple #[.string (l.getD k default).dest, .string (restF (l.getD k default) path), .nilIface]) ∧ Below W.heap.size W w') (by
        rintro e w' ⟨hB, ⟨h, _⟩ | ⟨k', _, h, _, _, rfl⟩⟩
        · rw [hfe] at h; exact absurd rfl h
        · rw [hfe] at h
          have hkk : k = k' := by simp only [Prod.mk.injEq, and_true] at h; omega
          rw [hkk]; exact ⟨rfl, hB⟩))
      generalize restF (l.getD k default) path = rest at *
      generalize l.getD k default = r at *
      obtain ⟨rh, rp, rt⟩ := r
      simp only at c0 c1 c2 HRE HRS
      have HC := Lib.hid (And.intro c0 (And.intro c1 c2))
      have hk0 : (0 : Int) ≤ (k : Int) := by omega
      have hk1 : (k : Int) < (l.length : Int) := by omega
      have hk2 : decide ((k : Int) < 0) = false := decide_eq_false (by omega)
      clear hck hfe hb hbad HEK HRE0 HAT h20 hce hbk hfit c0 c1 c2
      go_enter Tryd.func5, Tryd.ntmps5
      go_wp2_with (first
        | (go_at_call 12; (with_reducible refine (HRR.out _ HS.out).mono ?_); rintro e w1 ⟨rfl, hB⟩; replace HS := Lib.hid (bstep HS.out hB); clear hB)
        | (go_at_call 14; (with_reducible refine (HCK.out _ HS.out).mono ?_); rintro e w1 ⟨rfl, hB⟩; replace HS := Lib.hid (bstep HS.out hB); clear hB)
        | (go_at_call 13; (with_reducible refine (HEN.out _ HS.out).mono ?_); rintro e w1 ⟨rfl, hB⟩; replace HS := Lib.hid (bstep HS.out hB); clear hB)
        | (go_at_call 15; (with_reducible refine (HPR.out _ HS.out).mono ?_); rintro e w1 ⟨rfl, hB⟩; replace HS := Lib.hid (bstep HS.out hB); clear hB)
        | (go_at_call 10; (with_reducible refine (HP.out _ HS.out).mono ?_); rintro e w1 ⟨rfl, hB⟩; replace HS := Lib.hid (bstep HS.out hB); clear hB)
        | (go_at_call 16; (with_reducible refine (HFR.out _ HS.out).mono ?_); rintro e w1 ⟨rfl, hB⟩; replace HS := Lib.hid (bstep HS.out hB); clear hB; have g0 := (HS.out.cell (p := ⟨ab, off + k * 3, none⟩) hab).trans HC.out.1; have g1 := (HS.out.cell (p := ⟨ab, off + k * 3 + 1, none⟩) hab).trans HC.out.2.1; have g2 := (HS.out.cell (p := ⟨ab, off + k * 3 + 2, none⟩) hab).trans HC.out.2.2)
        | (go_at_call 7; (with_reducible refine (HF.out _ HS.out).mono ?_); rintro e w1 ⟨rfl, hB⟩; replace HS := Lib.hid (bstep HS.out hB); clear hB)
        | (go_at_call 8; (with_reducible refine (HRE.out _ HS.out).mono ?_); rintro e w1 ⟨rfl, hB⟩; replace HS := Lib.hid (bstep HS.out hB); clear hB)
        | (go_at_call 17; (with_reducible refine (HRS.out _).mono ?_); rintro e w1 ⟨rfl, hB⟩; replace HS := Lib.hid (bstep HS.out hB); clear hB g0 g1 g2))
      go_ret
      exact ⟨by simp, HS.out⟩
  · have he : errV (checkE l) = .iface 48 (.int .i64 (checkE l)) := by unfold errV; rw [if_neg hck]
    have hfe : findE l host path = (0, checkE l) := by unfold findE; rw [if_pos hck]
    have HP := Lib.hid (fun (W : World) (hW : Below w.heap.size w W) => print_bad _ l W (HAT.out.old hW) hck)
    have HRE := Lib.hid (fun (W : World) (hW : Below w.heap.size w W) => (HRE0.out W hW).mono (R' := fun e w' => e = .returned (.tuple #[.string ⟨#[]⟩, .string ⟨#[]⟩, .iface 48 (.int .i64 (checkE l))]) ∧ Below W.heap.size W w') (by
      rintro e w' ⟨hB, ⟨_, rfl⟩ | ⟨k', _, h, _⟩⟩
      · rw [hfe]; exact ⟨rfl, hB⟩
      · rw [hfe] at h; simp at h; exact absurd h.2 hck))
    have HE := HEK (checkE l)
    rw [hfe] at HF
    simp only at HF
    rw [he] at HCK HF
    have hk0 : (checkE l == 0) = false := beq_eq_false_iff_ne.2 hck
    generalize checkE l = k at *
    clear hck hfe HEK HEN HRE0 HAT he
    go_enter Tryd.func5, Tryd.ntmps5
    go_wp2_with (first
      | (go_at_call 12; (with_reducible refine (HRR.out _ HS.out).mono ?_); rintro e w1 ⟨rfl, hB⟩; replace HS := Lib.hid (bstep HS.out hB); clear hB)
      | (go_at_call 14; (with_reducible refine (HCK.out _ HS.out).mono ?_); rintro e w1 ⟨rfl, hB⟩; replace HS := Lib.hid (bstep HS.out hB); clear hB)
      | (go_at_call 13; (with_reducible refine (HE.out _ HS.out).mono ?_); rintro e w1 ⟨rfl, hB⟩; replace HS := Lib.hid (bstep HS.out hB); clear hB)
      | (go_at_call 10; (with_reducible refine (HP.out _ HS.out).mono ?_); rintro e w1 ⟨rfl, hB⟩; replace HS := Lib.hid (bstep HS.out hB); clear hB)
      | (go_at_call 7; (with_reducible refine (HF.out _ HS.out).mono ?_); rintro e w1 ⟨rfl, hB⟩; replace HS := Lib.hid (bstep HS.out hB); clear hB)
      | (go_at_call 8; (with_reducible refine (HRE.out _ HS.out).mono ?_); rintro e w1 ⟨rfl, hB⟩; replace HS := Lib.hid (bstep HS.out hB); clear hB))
    go_ret
    exact ⟨by simp, HS.out⟩
end Go.Proofs.YtijbploeleaabaaDoor.WalkRouteFinds
