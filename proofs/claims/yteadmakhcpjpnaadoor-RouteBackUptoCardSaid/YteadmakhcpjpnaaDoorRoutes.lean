/-
  Routes as a list; what is wrong with one, those ahead being right (package route's route and Check).
  Conditions: the length.
-/
import Derived.Test.YteadmakhcpjpnaaDoorLineC
import Derived.Test.YteadmakhcpjpnaaDoorRowsK
namespace Go.Proofs.YteadmakhcpjpnaaDoor.RouteC
open Go.RowKit Go.Shelf RowsK LineC
set_option linter.unusedVariables false
set_option linter.unusedSimpArgs false

/-- A route: host, path, whereto. -/
structure RT where
  host : ByteArray
  path : ByteArray
  dest : ByteArray
instance : Inhabited RT := ⟨⟨⟨#[]⟩, ⟨#[]⟩, ⟨#[]⟩⟩⟩
def encR : Enc RT := ⟨3, fun r => [.string r.host, .string r.path, .string r.dest], fun _ => rfl, fun x v hv => by simp at hv; rcases hv with rfl | rfl | rfl <;> rfl, by decide⟩
def sameR (r x : RT) : Bool := x.host.toList == r.host.toList && x.path.toList == r.path.toList
theorem cl_any (r x : RT) (R : Nat) (w : World) (h0 : w.cell? ⟨R, 0, none⟩ = some (.string r.host)) (h1 : w.cell? ⟨R, 1, none⟩ = some (.string r.path)) :
    Calls Tryd.prog 30 #[.agg #[.string x.host, .string x.path, .string x.dest], .pointer (some ⟨R, 0, none⟩)] w fun e w' => e = .returned (.bool (sameR r x)) ∧ Below w.heap.size w w' := by
  have hR := block_lt_of_cell h0
  have hB := (Below.refl w.heap.size w).alloc (Nat.le_refl _) (.cells #[.string x.host, .string x.path, .string x.dest] 28)
  have k0 := (hB.cell (p := ⟨R, 0, none⟩) hR).trans h0
  have k1 := (hB.cell (p := ⟨R, 1, none⟩) hR).trans h1
  have hr : sameR r x = (x.host.toList == r.host.toList && x.path.toList == r.path.toList) := rfl
  rw [hr]
  obtain ⟨xh, xp, xt⟩ := x
  obtain ⟨rh, rp, rt⟩ := r
  simp only at *
  clear hr
  rcases e0 : (xh.toList == rh.toList) with _ | _
  · go_enter Tryd.func30, Tryd.ntmps30
    go_wp2_with fail
    go_ret
    exact ⟨by simp, hB⟩
  · go_enter Tryd.func30, Tryd.ntmps30
    go_wp2_with fail
    go_ret
    exact ⟨by simp, hB⟩
theorem cf_any (r : RT) (R b off n c : Nat) (l : List RT) (w : World) (hn : n ≤ l.length) (hbig : n ≤ 9223372036854775807) (hb : b < w.heap.size) (h0 : w.cell? ⟨R, 0, none⟩ = some (.string r.host)) (h1 : w.cell? ⟨R, 1, none⟩ = some (.string r.path))
    (hc : ∀ i (h : i < l.length), ∀ j, j < 3 → w.cell? ⟨b, off + (i * 3 + j), none⟩ = (encR.enc l[i])[j]?) :
    Calls Tryd.prog 29 #[.slice (some ⟨b, off, none⟩) n c, .func (.func 30) #[] #[.pointer (some ⟨R, 0, none⟩)]] w fun e w' => e = .returned (.bool ((l.take n).any (sameR r))) ∧ Below w.heap.size w w' := by
  have eg : ∀ args w, (callFunc 30 args).run Tryd.prog w = .ok (.enter 30 args) w := enters_of Tryd.func30 (by kernel_rfl) rfl
  have hR := block_lt_of_cell h0
  have hp : PredBelow Tryd.prog 30 #[.pointer (some ⟨R, 0, none⟩)] (fun x => .agg (encR.enc x).toArray) (sameR r) w := fun W x hW =>
    (cl_any r x R W ((hW.cell (p := ⟨R, 0, none⟩) hR).trans h0) ((hW.cell (p := ⟨R, 1, none⟩) hR).trans h1)).mono fun e w' h => ⟨h.1, hW.trans (h.2.mono hW.size)⟩
  exact AnyQ.slices_ContainsFunc Tryd.cfRoutes 3 (fun w => Tryd.isAgg28 w) (fun w => Tryd.sizeOf28 w) encR.enc encR.len (sameR r) 30 _ eg b off n c l w hp hn hbig hb (fun i hi j v hv => by
    have hj : j < 3 := by have := (List.getElem?_eq_some_iff.1 hv).1; rwa [encR.len] at this
    rw [Nat.add_assoc, hc i hi j hj, ← hv, getElem!_pos l i hi])
/-- What is wrong with one, those ahead being right. -/
def badR (r : RT) : Bool := (!r.host.toList.isEmpty && (!wordL r.host.data.toList || r.host.toList == [42])) || !Lib.hasPrefix r.path.data.toList [47] || !wordL r.path.data.toList || !tokL r.dest.data.toList
def routeE (l : List RT) (i : Nat) (r : RT) : Int := if badR r then 2 else if (l.take i).any (sameR r) then 7 else 0
def errV (k : Int) : Value := if k = 0 then .nilIface else .iface 46 (.int .i64 k)
structure Held (w W : World) (rh rp rt : ByteArray) : Prop where
  bel : Below w.heap.size w W
  lt : w.heap.size < W.heap.size
  c0 : W.cell? ⟨w.heap.size, 0, none⟩ = some (.string rh)
  c1 : W.cell? ⟨w.heap.size, 1, none⟩ = some (.string rp)
  c2 : W.cell? ⟨w.heap.size, 2, none⟩ = some (.string rt)
theorem Held.step {w W W' : World} {rh rp rt : ByteArray} (h : Held w W rh rp rt) (hB : Below W.heap.size W W') : Held w W' rh rp rt :=
  ⟨h.bel.trans (hB.mono (by have := h.lt; omega)), Nat.lt_of_lt_of_le h.lt hB.size, (hB.cell (p := ⟨w.heap.size, 0, none⟩) h.lt).trans h.c0, (hB.cell (p := ⟨w.heap.size, 1, none⟩) h.lt).trans h.c1, (hB.cell (p := ⟨w.heap.size, 2, none⟩) h.lt).trans h.c2⟩
set_option maxRecDepth 100000 in
set_option maxHeartbeats 8000000 in
theorem route_any (v : Value) (l : List RT) (w : World) (hl : At encR w v l) (i : Nat) (hi : i < l.length) :
    Calls Tryd.prog 14 #[v, .int .i64 i] w fun e w' => e = .returned (errV (routeE l i l[i])) ∧ Below w.heap.size w w' := by
  obtain ⟨a, cap, rfl, hcap, hcap2, _, hel⟩ := hl
  have hbo : ∃ b off, a = some ⟨b, off, none⟩ ∧ b < w.heap.size ∧ ∀ k (h : k < l.length), ∀ j, j < 3 → w.cell? ⟨b, off + (k * 3 + j), none⟩ = (encR.enc l[k])[j]? := by
    obtain ⟨b, off, rfl, hb, _⟩ := hel 0 (by omega)
    refine ⟨b, off, rfl, hb, fun k hk j hj => ?_⟩
    obtain ⟨b', off', e, _, h⟩ := hel k hk
    simp only [Option.some.injEq, Addr.mk.injEq, and_true] at e
    obtain ⟨rfl, rfl⟩ := e
    exact h j hj
  obtain ⟨b, off, rfl, hb, hc⟩ := hbo
  have hn : l.length ≤ 9223372036854775807 := by omega
  have c0 := hc i hi 0 (by decide)
  have c1 := hc i hi 1 (by decide)
  have c2 := hc i hi 2 (by decide)
  change _ = some (Value.string l[i].host) at c0
  change _ = some (Value.string l[i].path) at c1
  change _ = some (Value.string l[i].dest) at c2
  rw [← Nat.add_assoc] at c0 c1 c2
  rw [Nat.add_zero] at c0
  have hi0 : (0 : Int) ≤ (i : Int) := by omega
  have hi1 : (i : Int) < (l.length : Int) := by omega
  have HC := Lib.hid hc
  clear hc hel
  generalize hr : l[i] = r at *
  obtain ⟨rh, rp, rt⟩ := r
  simp only at c0 c1 c2
  have hB0 := (Below.refl w.heap.size w).alloc (Nat.le_refl _) (.cells #[.string rh, .string rp, .string rt] 28)
  have HW := Lib.hid (word_any rh)
  have HP := Lib.hid (Tryd.strings_HasPrefix rp ⟨#[47]⟩)
  have HV := Lib.hid (word_any rp)
  have HT := Lib.hid (token_any rt)
  have HF := Lib.hid (fun (W : World) (hW : Below w.heap.size w W) (h0 : W.cell? ⟨w.heap.size, 0, none⟩ = some (.string rh)) (h1 : W.cell? ⟨w.heap.size, 1, none⟩ = some (.string rp)) => cf_any ⟨rh, rp, rt⟩ w.heap.size b off i cap l W (by omega) (by omega) (Nat.lt_of_lt_of_le hb hW.size) h0 h1 (fun k hk j hj => (hW.cell (p := ⟨b, off + (k * 3 + j), none⟩) hb).trans (HC.out k hk j hj)))
  unfold routeE badR
  simp only
  generalize (l.take i).any (sameR ⟨rh, rp, rt⟩) = b6 at *
  generalize wordL rh.data.toList = b2 at *
  generalize wordL rp.data.toList = b4 at *
  generalize tokL rt.data.toList = b5 at *
  change Hid (∀ w, Calls Tryd.prog 27 #[.string rp, .string ⟨#[47]⟩] w fun e w' => e = .returned (.bool (Lib.hasPrefix rp.data.toList [47])) ∧ w' = w) at HP
  generalize Lib.hasPrefix rp.data.toList [47] = b3 at *
  have HS : Hid (Held w (w.alloc (.cells #[.string rh, .string rp, .string rt] 28)) rh rp rt) := (⟨hB0, by simp, by simp, by simp, by simp⟩ : Held _ _ _ _ _)
  clear HC hr hB0
  rcases e1 : rh.toList.isEmpty with _ | _
  · rcases e2 : (rh.toList == [42]) with _ | _
    all_goals
      go_enter Tryd.func14, Tryd.ntmps14
      go_wp2_with (first
        | (go_at_call 26; (with_reducible refine (HW.out _).mono ?_); rintro e wA ⟨rfl, hA⟩; replace HS := Lib.hid (HS.out.step hA); have g0 := HS.out.c0; have g1 := HS.out.c1; have g2 := HS.out.c2; clear hA)
        | (go_at_call 27; (with_reducible refine (HP.out _).mono ?_); rintro e wP ⟨rfl, rfl⟩)
        | (go_at_call 26; (with_reducible refine (HV.out _).mono ?_); rintro e wB ⟨rfl, hA⟩; replace HS := Lib.hid (HS.out.step hA); have g0 := HS.out.c0; have g1 := HS.out.c1; have g2 := HS.out.c2; clear hA)
        | (go_at_call 28; (with_reducible refine (HT.out _).mono ?_); rintro e wT ⟨rfl, hA⟩; replace HS := Lib.hid (HS.out.step hA); have g0 := HS.out.c0; have g1 := HS.out.c1; have g2 := HS.out.c2; clear hA)
        | (go_at_call 29; (with_reducible refine (HF.out _ HS.out.bel HS.out.c0 HS.out.c1).mono ?_); rintro e wC ⟨rfl, hA⟩; replace HS := Lib.hid (HS.out.step hA); clear hA))
      all_goals go_ret
      all_goals first | exact ⟨rfl, HS.out.bel⟩ | (exfalso; clear HW HP HV HT HF HS; simp_all; done)
  · go_enter Tryd.func14, Tryd.ntmps14
    go_wp2_with (first
      | (go_at_call 26; (with_reducible refine (HW.out _).mono ?_); rintro e wA ⟨rfl, hA⟩; replace HS := Lib.hid (HS.out.step hA); have g0 := HS.out.c0; have g1 := HS.out.c1; have g2 := HS.out.c2; clear hA)
      | (go_at_call 27; (with_reducible refine (HP.out _).mono ?_); rintro e wP ⟨rfl, rfl⟩)
      | (go_at_call 26; (with_reducible refine (HV.out _).mono ?_); rintro e wB ⟨rfl, hA⟩; replace HS := Lib.hid (HS.out.step hA); have g0 := HS.out.c0; have g1 := HS.out.c1; have g2 := HS.out.c2; clear hA)
      | (go_at_call 28; (with_reducible refine (HT.out _).mono ?_); rintro e wT ⟨rfl, hA⟩; replace HS := Lib.hid (HS.out.step hA); have g0 := HS.out.c0; have g1 := HS.out.c1; have g2 := HS.out.c2; clear hA)
      | (go_at_call 29; (with_reducible refine (HF.out _ HS.out.bel HS.out.c0 HS.out.c1).mono ?_); rintro e wC ⟨rfl, hA⟩; replace HS := Lib.hid (HS.out.step hA); clear hA))
    all_goals go_ret
    all_goals first | exact ⟨rfl, HS.out.bel⟩ | (exfalso; clear HW HP HV HT HF HS; simp_all; done)
theorem routeE_cases (l : List RT) (i : Nat) (r : RT) : routeE l i r = 0 ∨ routeE l i r = 2 ∨ routeE l i r = 7 := by
  unfold routeE
  split
  · exact .inr (.inl rfl)
  · split
    · exact .inr (.inr rfl)
    · exact .inl rfl
theorem route_ways (v : Value) (l : List RT) (w : World) (hl : At encR w v l) (i : Nat) (hi : i < l.length) :
    Calls Tryd.prog 14 #[v, .int .i64 i] w fun e w' => ((routeE l i l[i] = 0 ∧ e = .returned .nilIface) ∨ ∃ k, (k = 2 ∨ k = 7) ∧ routeE l i l[i] = k ∧ e = .returned (.iface 46 (.int .i64 k))) ∧ Below w.heap.size w w' := by
  refine (route_any v l w hl i hi).mono ?_
  rintro e w' ⟨rfl, hB⟩
  refine ⟨?_, hB⟩
  rcases routeE_cases l i l[i] with h | h | h
  · rw [h]; exact .inl ⟨rfl, rfl⟩
  · rw [h]; exact .inr ⟨2, .inl rfl, rfl, rfl⟩
  · rw [h]; exact .inr ⟨7, .inr rfl, rfl, rfl⟩
/-- What is wrong with the first n. -/
def checkUpto (l : List RT) : Nat → Int
  | 0 => 0
  | n + 1 => if checkUpto l n ≠ 0 then checkUpto l n else routeE l n (l.getD n default)
def checkE (l : List RT) : Int := if 20 < l.length then 4 else checkUpto l l.length
theorem checkUpto_stop {l : List RT} {i : Nat} {k : Int} (h0 : checkUpto l i = 0) (hk : routeE l i (l.getD i default) = k) (hk0 : k ≠ 0) : ∀ n, i < n → checkUpto l n = k
  | 0, h => by omega
  | n + 1, h => by
    rcases Nat.lt_or_ge i n with hl | hl
    · have := checkUpto_stop h0 hk hk0 n hl
      unfold checkUpto
      rw [this, if_pos hk0]
    · obtain rfl : i = n := by omega
      unfold checkUpto
      rw [h0, if_neg (by simp), hk]
theorem checkUpto_zero {l : List RT} : ∀ {n i : Nat}, i ≤ n → checkUpto l n = 0 → checkUpto l i = 0 := fun {n i} h h0 => by
  induction n with
  | zero => obtain rfl : i = 0 := by omega
            exact h0
  | succ n ih =>
    unfold checkUpto at h0
    split at h0
    · exact absurd h0 ‹_›
    · rename_i hn
      have hz : checkUpto l n = 0 := by simpa using hn
      rcases Nat.lt_or_ge n i with hl | hl
      · obtain rfl : i = n + 1 := by omega
        unfold checkUpto
        rw [hz, if_neg (by simp), h0]
      · exact ih hl hz
set_option maxRecDepth 100000 in
set_option maxHeartbeats 8000000 in
theorem check_any (v : Value) (l : List RT) (w : World) (hl : At encR w v l) :
    Calls Tryd.prog 15 #[v] w fun e w' => e = .returned (errV (checkE l)) ∧ Below w.heap.size w w' := by
  have HL := Lib.hid hl
  obtain ⟨a, cap, rfl, hcap, hcap2, _, _⟩ := hl
  by_cases h20 : 20 < l.length
  · have hr : errV (checkE l) = .iface 46 (.int .i64 4) := by unfold checkE; rw [if_pos h20]; rfl
    rw [hr]
    have h1 : (20 : Int) < (l.length : Int) := by omega
    go_enter Tryd.func15, Tryd.ntmps15
    go_wp2_with fail
    go_ret
    exact ⟨rfl, Below.refl _ _⟩
  · have hr : checkE l = checkUpto l l.length := by unfold checkE; rw [if_neg h20]
    have HR := Lib.hid hr
    have h1 : ¬ (20 : Int) < (l.length : Int) := by omega
    clear hr
    go_enter Tryd.func15, Tryd.ntmps15
    go_wp2_with fail
    go_loopw [11] (fun iv wi => ∃ (i : Nat), iv = .int .i64 i ∧ i ≤ l.length ∧ checkUpto l i = 0 ∧ Below w.heap.size w wi) (fun iv _ => 21 - (intOf iv).toNat)
    case atStart => exact ⟨0, rfl, by omega, rfl, Below.refl _ _⟩
    case round =>
      obtain ⟨i, rfl, hi, hz, hB⟩ := hrel
      have HZ := Lib.hid hz
      clear hz
      by_cases hin : i < l.length
      · have hrt := route_ways _ l wr (HL.out.old hB) i hin
        have hsz := hB.size
        have hgd : l.getD i default = l[i] := by simp [List.getD, List.getElem?_eq_getElem hin]
        have HGD := Lib.hid hgd
        have HRT := Lib.hid hrt
        clear hrt hgd
        go_wp2_with (go_at_call 14; (with_reducible refine HRT.out.mono ?_); rintro e w1 ⟨⟨hk, rfl⟩ | ⟨k, hk2, hk, rfl⟩, hB1⟩ <;> (have HK := Lib.hid hk; clear hk; try (have HK2 := Lib.hid hk2; clear hk2)))
        case roundEnd => exact ⟨⟨i + 1, rfl, by omega, (by unfold checkUpto; rw [HZ.out, if_neg (by simp), HGD.out, HK.out]), hB.trans (hB1.mono hsz)⟩, (by show 21 - ((i : Int) + 1).toNat < 21 - (i : Int).toNat; omega)⟩
        go_ret
        refine ⟨?_, hB.trans (hB1.mono hsz)⟩
        rw [HR.out, checkUpto_stop (k := k) HZ.out (by rw [HGD.out]; exact HK.out) (by rcases HK2.out with h | h <;> omega) _ hin]
        have hk0 : k ≠ 0 := by rcases HK2.out with h | h <;> omega
        unfold errV
        rw [if_neg hk0]; rfl
      · obtain rfl : i = l.length := by omega
        go_wp2_with fail
        go_ret
        refine ⟨?_, hB⟩
        rw [HR.out, HZ.out]; rfl
end Go.Proofs.YteadmakhcpjpnaaDoor.RouteC
