/-
  head.ReadText over this seat's translation, of any bytes.
  Conditions: where the bytes lie, and how many.
-/
import Derived.Test.YtbbhinhledkceaaHeadText
import Derived.Deep.QuietTactic
import Derived.BigQuiet
namespace Go.Proofs.Ytbbhinhledkceaa.HeadC
open Go.RowKit CodeC WireC BA
set_option linter.unusedVariables false
set_option linter.unusedSimpArgs false

theorem gl_ok : ∀ (r : List Int) (i : Nat) (n : Int), 0 ≤ n → (gl r i n).2.2 = 0 → 0 ≤ (gl r i n).1 ∧ i + 2 ≤ (gl r i n).2.1 ∧ (gl r i n).2.1 ≤ i + 1 + r.length := by
  intro r
  induction r with
  | nil => intro i n _ h; simp [gl] at h
  | cons c r ih =>
    intro i n hn h
    have hP : (0 : Int) < 2 ^ (7 * i) := Int.pow_pos (by decide)
    have hD : 0 ≤ c % 128 * 2 ^ (7 * i) := Int.mul_nonneg (by omega) (by omega)
    by_cases h1 : 2147483647 < n + c % 128 * 2 ^ (7 * i) ∨ (i = 4 ∧ 128 ≤ c)
    · rw [gl_over h1] at h; cases h
    · by_cases h2 : 0 < i ∧ c = 0
      · rw [gl_syn h1 h2] at h; cases h
      · by_cases h3 : c < 128
        · rw [gl_end h1 h2 h3]
          simp only [List.length_cons]
          omega
        · rw [gl_step h1 h2 h3] at h ⊢
          have := ih (i + 1) _ (by omega) h
          simp only [List.length_cons]
          omega
theorem getS_ok {b : List Int} {p : Nat} (h : (getS b p).2.2 = 0) : 0 ≤ (getS b p).1 ∧ 1 ≤ (getS b p).2.1 ∧ (getS b p).2.1 ≤ b.length := by
  cases b with
  | nil => simp [getS] at h
  | cons z r =>
    have hP : (0 : Int) < 2 ^ p := Int.pow_pos (by decide)
    have hm : 0 ≤ z % 2 ^ p := Int.emod_nonneg _ (by omega)
    have e : getS (z :: r) p = if z % 2 ^ p < 2 ^ p - 1 then (z % 2 ^ p, 1, 0) else gl r 0 (z % 2 ^ p) := rfl
    rw [e] at h ⊢
    split at h
    · rename_i h1
      rw [if_pos h1]
      simp only [List.length_cons]
      omega
    · rename_i h1
      rw [if_neg h1]
      have := gl_ok r 0 _ hm h
      simp only [List.length_cons]
      omega
def cutB (a : Option Addr) (q cap : Nat) : Option Addr := if cap = q then a else a.map (·.add q)
set_option maxRecDepth 100000 in
theorem slice_run (a : Option Addr) (L cap q n : Nat) (h : q + n ≤ cap) (W : World) :
    (Instr.slice 40 (.slice a L cap) (some (.int .i64 (q : Int))) (some (.int .i64 ((q : Int) + (n : Int)))) none).run Try.prog W = .ok (.slice (cutB a q cap) n (cap - q)) W := by
  have hu : Try.prog.underlying 40 = some (.slice (Try.prog.elem 40)) := Try.underlying40
  have hs : (sizeOf (Try.prog.elem 40)).run Try.prog W = .ok 1 W := by kernel_rfl
  rw [run_slice_lh (P := Try.prog) W 40 a L cap hu .i64 .i64 (q : Int) ((q : Int) + (n : Int)) (by omega) (by omega) (by omega), hs]
  simp only [Result.andThen, sliced]
  have e1 : ((q : Int)).toNat = q := by omega
  have e2 : ((q : Int) + (n : Int)).toNat = q + n := by omega
  rw [e1, e2, Nat.mul_one, Nat.add_sub_cancel_left]
  rfl
set_option maxRecDepth 100000 in
theorem slice_head (a : Option Addr) (L cap m : Nat) (h : m ≤ cap) (W : World) (z : Int) (hz : z = (m : Int)) :
    (Instr.slice 40 (.slice a L cap) none (some (.int .i64 z)) none).run Try.prog W = .ok (.slice a m cap) W := by
  subst hz
  have hu : Try.prog.underlying 40 = some (.slice (Try.prog.elem 40)) := Try.underlying40
  have hs : (sizeOf (Try.prog.elem 40)).run Try.prog W = .ok 1 W := by kernel_rfl
  rw [run_slice_h (P := Try.prog) W 40 a L cap hu .i64 (m : Int) (by omega) (by omega), hs]
  simp only [Result.andThen, sliced]
  have e1 : ((m : Int)).toNat = m := by omega
  rw [e1]
  cases a with
  | none => simp
  | some x => cases x; simp [Addr.add]
theorem bytes_cutB {w : World} {bb off L cap : Nat} {b : List Int} (h : BytesAt w (.slice (some ⟨bb, off, none⟩) L cap) b) (q n : Nat) (hq : q + n ≤ b.length) (hc : q ≤ cap) : BytesAt w (.slice (cutB (some ⟨bb, off, none⟩) q cap) n (cap - q)) ((b.drop q).take n) := by
  unfold cutB
  by_cases hcq : cap = q
  · rw [if_pos hcq]
    obtain ⟨a0, c0, e, h1, h2, h3, h4⟩ := h.open
    simp only [Value.slice.injEq] at e
    obtain ⟨rfl, rfl, rfl⟩ := e
    have hn : n = 0 := by omega
    subst hn
    rw [List.take_zero, hcq, Nat.sub_self]
    exact ⟨_, 0, rfl, by simp [BytesL.valB], by simp, by simp, by simp [BytesL.valB]⟩
  · rw [if_neg hcq]
    have := bytesAt_take (bytesAt_drop h q (by omega)) n (by rw [List.length_drop]; omega)
    simpa [Go.WideShapes.add_plain] using this
theorem tail_bd (f : Nat) : ∀ n : Int, 0 ≤ n → n < 128 ^ (f + 1) → ∀ z ∈ tailF f n, 0 ≤ z ∧ z ≤ 255 := by
  induction f with
  | zero =>
    intro n h0 h1 z hz
    have hn : n < 128 := by simpa using h1
    rw [tail_end 0 n hn] at hz
    obtain rfl := List.mem_singleton.1 hz
    omega
  | succ f ih =>
    intro n h0 h1 z hz
    by_cases hn : n < 128
    · rw [tail_end (f + 1) n hn] at hz
      obtain rfl := List.mem_singleton.1 hz
      omega
    · obtain ⟨f', hf', ht, hb⟩ := tail_step (f + 1) n (by omega) h1
      obtain rfl : f' = f := by omega
      rw [ht] at hz
      rcases List.mem_cons.1 hz with rfl | hz
      · omega
      · exact ih _ (by omega) hb z hz
theorem putL_bd {n first : Int} (h0 : 0 ≤ n) (h1 : n ≤ 2147483647) (hf0 : 0 ≤ first) (hf1 : first ≤ 128) : ∀ z ∈ putL n (7 : Nat) first, 0 ≤ z ∧ z ≤ 255 := by
  intro z hz
  have hm : mask ((7 : Nat) : Int) = 127 := rfl
  unfold putL at hz
  rw [hm] at hz
  split at hz
  · obtain rfl := List.mem_singleton.1 hz
    omega
  · rcases List.mem_cons.1 hz with rfl | hz
    · omega
    · exact tail_bd 4 _ (by omega) (by have : (128 : Int) ^ (4 + 1) = 34359738368 := rfl; omega) z hz
theorem textL_bd (s : List UInt8) (hs : s.length ≤ 2147483647) : ∀ z ∈ textL s, 0 ≤ z ∧ z ≤ 255 := by
  intro z hz
  unfold textL at hz
  split at hz
  · rcases List.mem_append.1 hz with h | h
    · exact putL_bd (by omega) (by omega) (by decide) (by decide) z h
    · exact intsU_bd s z h
  · rcases List.mem_append.1 hz with h | h
    · exact putL_bd (by omega) (by omega) (by decide) (by decide) z h
    · exact code_bd s z h
theorem below_dn {B : Nat} {w w' : World} (h : Below B w w') (n : Nat) : Below B w (w'.drewN n) := ⟨h.os, h.tape, h.output, h.size, h.block⟩
theorem lett_str (l : List Int) : strOf l = ⟨(lett l).toArray⟩ := rfl
/-- What ReadText gives. -/
def RT (b : List Int) (w w' : World) (e : Ending) : Prop :=
  Below w.heap.size w w' ∧ e = .returned (.tuple #[.string ⟨(rtS b).1.toArray⟩, .int .i64 (rtS b).2.1, errV (rtS b).2.2])
set_option maxRecDepth 100000 in
set_option maxHeartbeats 8000000 in
theorem readText_any (v : Value) (b : List Int) (w : World) (hv : BytesAt w v b) (hz : ∀ z ∈ b, 0 ≤ z ∧ z ≤ 255) (hl : b.length ≤ 1099511627776) :
    Calls Try.prog 40 #[v] w fun e w' => RT b w w' e := by
  obtain ⟨a, L, cap, rfl, hL, hcap⟩ : ∃ a L c, v = .slice a L c ∧ b.length = L ∧ L ≤ c := by obtain ⟨x, c, e, h1, -⟩ := hv.open; exact ⟨_, _, _, e, rfl, h1⟩
  have HG := Lib.hid (wget_any 7 (by decide) (.slice a L cap) b w hv hz hl)
  obtain ⟨R, hR⟩ : ∃ R, rtS b = R := ⟨_, rfl⟩
  have HR := Lib.hid hR
  have HRT : Hid (∀ w' e, RT b w w' e = (Below w.heap.size w w' ∧ e = .returned (.tuple #[.string ⟨R.1.toArray⟩, .int .i64 R.2.1, errV R.2.2]))) := fun w' e => by unfold RT; rw [hR]
  have hok := getS_ok (b := b) (p := 7)
  have hrt : rtS b = if (getS b 7).2.2 ≠ 0 then ([], 0, (getS b 7).2.2) else if 400 < (getS b 7).1 then ([], 0, 4) else if (b.length : Int) - (getS b 7).2.1 < (getS b 7).1 then ([], 0, 8) else match rawT b with | none => ([], 0, 2) | some s => if 400 < s.length then ([], 0, 4) else if textL s ≠ b.take ((getS b 7).2.1 + (getS b 7).1.toNat) then ([], 0, 2) else (s, (getS b 7).2.1 + (getS b 7).1.toNat, 0) := rfl
  have hraw : rawT b = if 128 ≤ b.getD 0 0 then decS ((b.drop (getS b 7).2.1).take (getS b 7).1.toNat) (8 * ((b.drop (getS b 7).2.1).take (getS b 7).1.toNat).length + 1) 0 [] else some (lett ((b.drop (getS b 7).2.1).take (getS b 7).1.toNat)) := rfl
  rw [hR, hL] at hrt
  rw [hL] at hok hl
  obtain ⟨⟨n, at_, e0⟩, hg⟩ : ∃ g, getS b 7 = g := ⟨_, rfl⟩
  rw [hg] at HG hrt hok hraw
  simp only at HG hrt hok hraw
  have c7 : ((7 : Nat) : Int) = 7 := rfl
  rw [c7] at HG
  have HV := Lib.hid hv
  have HZ := Lib.hid hz
  have HL := Lib.hid hL
  clear hR hL hv hz hg c7
  by_cases he : e0 = 0
  · subst he
    obtain ⟨hn0, ha1, ha2⟩ := hok rfl
    obtain ⟨m, rfl⟩ : ∃ m : Nat, n = m := ⟨n.toNat, by omega⟩
    rw [if_neg (by simp)] at hrt
    have HEV : Hid (errV 0 = .nilIface) := rfl
    rw [HEV.out] at HG
    by_cases h4 : 400 < (m : Int)
    · rw [if_pos h4] at hrt
      have HRR := Lib.hid hrt
      clear hrt hraw hok
      go_enter Try.func40, Try.ntmps40
      go_wp2_with (first
        | (go_at_call 35; (with_reducible refine HG.out.mono ?_); rintro e w1 ⟨rfl, rfl⟩))
      go_ret3
      rw [HRT.out, HRR.out]
      exact ⟨Below.refl _ _, rfl⟩
    · rw [if_neg h4] at hrt
      by_cases h8 : (L : Int) - (at_ : Int) < (m : Int)
      · rw [if_pos h8] at hrt
        have HRR := Lib.hid hrt
        clear hrt hraw hok
        go_enter Try.func40, Try.ntmps40
        go_wp2_with (first
          | (go_at_call 35; (with_reducible refine HG.out.mono ?_); rintro e w1 ⟨rfl, rfl⟩))
        go_ret3
        rw [HRT.out, HRR.out]
        exact ⟨Below.refl _ _, rfl⟩
      · rw [if_neg h8] at hrt
        rw [Int.toNat_natCast] at hrt hraw
        obtain ⟨g, off, rfl, hc0⟩ : ∃ g off, a = some ⟨g, off, none⟩ ∧ w.cell? ⟨g, off, none⟩ = some (.int .u8 (b.getD 0 0)) := by
          obtain ⟨a1, c1, e, -, -, -, hel⟩ := HV.out.open
          simp only [Value.slice.injEq] at e
          obtain ⟨rfl, -, -⟩ := e
          obtain ⟨g, off, e1, -, e2⟩ := hel 0 (by rw [HL.out]; omega)
          exact ⟨g, off, e1, by simpa using e2⟩
        obtain ⟨z, hzz⟩ : ∃ z, b.getD 0 0 = z := ⟨_, rfl⟩
        rw [hzz] at hc0 hraw
        have hsl := fun W => slice_run (some ⟨g, off, none⟩) L cap at_ m (by omega) W
        obtain ⟨raw, hrw⟩ : ∃ raw, (b.drop at_).take m = raw := ⟨_, rfl⟩
        have hcutW : Hid (∀ W, Below w.heap.size w W → BytesAt W (.slice (cutB (some ⟨g, off, none⟩) at_ cap) m (cap - at_)) raw) := fun W hB => by
          rw [← hrw]
          exact bytes_cutB (HV.out.below hB) at_ m (by rw [HL.out]; omega) (by omega)
        have hrz : ∀ z ∈ raw, 0 ≤ z ∧ z ≤ 255 := fun z hm => HZ.out z (by rw [← hrw] at hm; exact List.mem_of_mem_drop (List.mem_of_mem_take hm))
        have hrl : raw.length = m := by rw [← hrw, List.length_take, List.length_drop, HL.out]; omega
        have hcv : (convert 40 9 (.slice (cutB (some ⟨g, off, none⟩) at_ cap) m (cap - at_))).run Try.prog w = .ok (.string ⟨(lett raw).toArray⟩) w := conv_back (hcutW.out w (Below.refl _ _)) hrz
        rw [hrw] at hraw
        have v1 : IntKind.i64.wrap ((at_ : Int) + (m : Int)) = (at_ : Int) + (m : Int) := IntWalk.i64_in _ (by omega)
        have HDC := Lib.hid (decode_any (.slice (cutB (some ⟨g, off, none⟩) at_ cap) m (cap - at_)) raw w (hcutW.out w (Below.refl _ _)) hrz (by rw [hrl]; omega))
        have HTX := Lib.hid (fun (t : List UInt8) (ht : t.length ≤ 400) (W : World) => text_ok ⟨t.toArray⟩ W ht)
        have HTL := Lib.hid (fun (t : List UInt8) (ht : 400 < t.length) (W : World) => text_long ⟨t.toArray⟩ W ht)
        have HRW := Lib.hid hraw
        have HRZ := Lib.hid hrz
        have HRT2 := Lib.hid hrt
        have hrl2 := hrl
        have h8' : ¬ (L : Int) - (at_ : Int) < (m : Int) := h8
        clear hrt hraw hok hrz hrl hrw hzz
        by_cases hz1 : 128 ≤ z
        · obtain ⟨DR, hDR⟩ : ∃ DR, decS raw (8 * raw.length + 1) 0 [] = DR := ⟨_, rfl⟩
          have hrt3 := HRT2.out
          rw [HRW.out, if_pos hz1, hDR] at hrt3
          rw [hDR] at HDC
          cases DR with
          | none =>
            have HRR := Lib.hid hrt3
            have HDD : Hid ((none : Option (List UInt8)) = none) := rfl
            clear hrt3 hDR
            go_enter Try.func40, Try.ntmps40
            go_wp2_with (first
            | (go_at_call 35; (with_reducible refine HG.out.mono ?_); rintro e w1 ⟨rfl, rfl⟩)
            | (go_at_call 42; (with_reducible refine HDC.out.mono ?_); rintro e w2 ⟨hB, ⟨-, rfl⟩ | ⟨o, ho, -⟩⟩; rotate_left; exact absurd ho (by simp); have HB2 := Lib.hid hB; clear hB))
            go_ret3
            rw [HRT.out, HRR.out]
            exact ⟨HB2.out, rfl⟩
          | some t =>
            have HDD : Hid (some t = some t) := rfl
            clear hDR
            simp only at hrt3
            by_cases ht400 : t.length ≤ 400
            · rw [if_neg (by omega)] at hrt3
              obtain ⟨TL, hTL⟩ : ∃ TL, textL t = TL := ⟨_, rfl⟩
              have htb := textL_bd t (by omega)
              rw [hTL] at htb hrt3
              have HTX := Lib.hid (fun (W : World) => text_ok ⟨t.toArray⟩ W ht400)
              have HTT : Hid (textL (⟨t.toArray⟩ : ByteArray).data.toList = TL) := by show _ = _; exact hTL
              rw [HTT.out] at HTX
              have HTB := Lib.hid htb
              have hsl2 := fun W => slice_head (some ⟨g, off, none⟩) L cap (at_ + m) (by omega) W ((at_ : Int) + (m : Int)) (by omega)
              have HTK : Hid (∀ W, Below w.heap.size w W → (convert 40 9 (.slice (some ⟨g, off, none⟩) (at_ + m) cap)).run Try.prog W = .ok (.string (strOf (b.take (at_ + m)))) W) := fun W hB => conv_back (bytesAt_take (HV.out.below hB) (at_ + m) (by rw [HL.out]; omega)) (fun z hm => HZ.out z (List.mem_of_mem_take hm))
              have htkz : ∀ z ∈ b.take (at_ + m), 0 ≤ z ∧ z ≤ 255 := fun z hm => HZ.out z (List.mem_of_mem_take hm)
              by_cases heq : TL = b.take (at_ + m)
              · rw [if_neg (by simpa using heq)] at hrt3
                have HRR := Lib.hid hrt3
                have HEQ := Lib.hid heq
                clear hrt3 heq htkz htb hTL
                go_enter Try.func40, Try.ntmps40
                go_upto_region 17 with (first
                | (go_at_call 35; (with_reducible refine HG.out.mono ?_); rintro e w1 ⟨rfl, rfl⟩)
                | (go_at_call 42; (with_reducible refine HDC.out.mono ?_); rintro e w2 ⟨hB, ⟨hno, -⟩ | ⟨o, ho, rfl⟩⟩; exact absurd hno (by simp); obtain rfl : t = o := Option.some.inj ho; have HB2 := Lib.hid hB; clear hB ho)
                | (go_at_call 29; (with_reducible refine (HTX.out _).mono ?_); rintro e w3 ⟨vx, rfl, hO, hB⟩; obtain ⟨x1, x2, rfl, -⟩ := hO.slice; have HX := Lib.hid (BytesAt.of_own hO); have HB3 := Lib.hid (HB2.out.trans (hB.mono HB2.out.size)); clear hO hB))
                obtain ⟨X, hX⟩ : ∃ X, strOf (b.take (at_ + m)) = X := ⟨_, rfl⟩
                have cz : ∀ n : Nat, (convert 40 9 (.slice x1 TL.length x2)).run Try.prog (w3.drewN n) = .ok (.string X) (w3.drewN n) := fun n => by
                  have h := conv_back (HX.out.below (below_dn (Below.refl _ _) n)) HTB.out
                  rw [HEQ.out, hX] at h
                  rw [HEQ.out]; exact h
                have cb : ∀ n : Nat, (convert 40 9 (.slice (some ⟨g, off, none⟩) (at_ + m) cap)).run Try.prog (w3.drewN n) = .ok (.string X) (w3.drewN n) := fun n => by
                  have h := HTK.out _ (below_dn HB3.out n)
                  rw [hX] at h; exact h
                have cz0 := cz 0
                have cb0 := cb 0
                rw [show w3.drewN 0 = w3 from rfl] at cz0 cb0
                clear hX
                generalize TL.length = tn at *
                go_quiet (fail)
                go_wp2
                go_ret3
                rw [HRT.out, HRR.out]
                exact ⟨below_dn HB3.out _, rfl⟩
              · rw [if_pos heq] at hrt3
                have HRR := Lib.hid hrt3
                obtain ⟨X, hX⟩ : ∃ X, strOf (b.take (at_ + m)) = X := ⟨_, rfl⟩
                obtain ⟨Y, hY⟩ : ∃ Y, strOf TL = Y := ⟨_, rfl⟩
                have hxy : Y ≠ X := fun h => heq (strOf_inj htb htkz (by rw [hX, hY, h]))
                have hxy2 : (Y.toList == X.toList) = false := beq_eq_false_iff_ne.2 (fun h => hxy (by rw [ByteArray.toList_eq, ByteArray.toList_eq] at h; apply ByteArray.ext; exact Array.ext' h))
                have hxy3 : (Y.toList != X.toList) = true := by rw [bne, hxy2]; rfl
                have HXH := Lib.hid hX
                have HYH := Lib.hid hY
                clear hrt3 heq htkz htb hTL hxy hX hY
                go_enter Try.func40, Try.ntmps40
                go_upto_region 17 with (first
                | (go_at_call 35; (with_reducible refine HG.out.mono ?_); rintro e w1 ⟨rfl, rfl⟩)
                | (go_at_call 42; (with_reducible refine HDC.out.mono ?_); rintro e w2 ⟨hB, ⟨hno, -⟩ | ⟨o, ho, rfl⟩⟩; exact absurd hno (by simp); obtain rfl : t = o := Option.some.inj ho; have HB2 := Lib.hid hB; clear hB ho)
                | (go_at_call 29; (with_reducible refine (HTX.out _).mono ?_); rintro e w3 ⟨vx, rfl, hO, hB⟩; obtain ⟨x1, x2, rfl, -⟩ := hO.slice; have HX := Lib.hid (BytesAt.of_own hO); have HB3 := Lib.hid (HB2.out.trans (hB.mono HB2.out.size)); clear hO hB))
                have cz : ∀ n : Nat, (convert 40 9 (.slice x1 TL.length x2)).run Try.prog (w3.drewN n) = .ok (.string Y) (w3.drewN n) := fun n => by
                  have h := conv_back (HX.out.below (below_dn (Below.refl _ _) n)) HTB.out
                  rw [HYH.out] at h; exact h
                have cb : ∀ n : Nat, (convert 40 9 (.slice (some ⟨g, off, none⟩) (at_ + m) cap)).run Try.prog (w3.drewN n) = .ok (.string X) (w3.drewN n) := fun n => by
                  have h := HTK.out _ (below_dn HB3.out n)
                  rw [HXH.out] at h; exact h
                have cz0 := cz 0
                have cb0 := cb 0
                rw [show w3.drewN 0 = w3 from rfl] at cz0 cb0
                generalize TL.length = tn at *
                go_quiet (fail)
                go_wp2
                go_ret3
                rw [HRT.out, HRR.out]
                exact ⟨below_dn HB3.out _, rfl⟩
            · rw [if_pos (by omega)] at hrt3
              have HRR := Lib.hid hrt3
              have HT4 := Lib.hid (fun W => text_long ⟨t.toArray⟩ W (show 400 < t.length by omega))
              clear hrt3
              go_enter Try.func40, Try.ntmps40
              go_wp2_with (first
              | (go_at_call 35; (with_reducible refine HG.out.mono ?_); rintro e w1 ⟨rfl, rfl⟩)
              | (go_at_call 42; (with_reducible refine HDC.out.mono ?_); rintro e w2 ⟨hB, ⟨hno, -⟩ | ⟨o, ho, rfl⟩⟩; exact absurd hno (by simp); obtain rfl : t = o := Option.some.inj ho; have HB2 := Lib.hid hB; clear hB ho)
              | (go_at_call 29; (with_reducible refine (HT4.out _).mono ?_); rintro e w3 ⟨rfl, rfl⟩))
              go_ret3
              rw [HRT.out, HRR.out]
              exact ⟨HB2.out, rfl⟩
        · have hrt3 := HRT2.out
          rw [HRW.out, if_neg hz1] at hrt3
          simp only at hrt3
          obtain ⟨t, ht⟩ : ∃ t, lett raw = t := ⟨_, rfl⟩
          have ht400 : t.length ≤ 400 := by rw [← ht]; unfold lett; rw [List.length_map, hrl2]; omega
          rw [ht] at hrt3 hcv
          rw [if_neg (by omega)] at hrt3
          have hz2 : z < 128 := by omega
          clear ht hz1
          obtain ⟨TL, hTL⟩ : ∃ TL, textL t = TL := ⟨_, rfl⟩
          have htb := textL_bd t (by omega)
          rw [hTL] at htb hrt3
          have HTX := Lib.hid (fun (W : World) => text_ok ⟨t.toArray⟩ W ht400)
          have HTT : Hid (textL (⟨t.toArray⟩ : ByteArray).data.toList = TL) := by show _ = _; exact hTL
          rw [HTT.out] at HTX
          have HTB := Lib.hid htb
          have hsl2 := fun W => slice_head (some ⟨g, off, none⟩) L cap (at_ + m) (by omega) W ((at_ : Int) + (m : Int)) (by omega)
          have HTK : Hid (∀ W, Below w.heap.size w W → (convert 40 9 (.slice (some ⟨g, off, none⟩) (at_ + m) cap)).run Try.prog W = .ok (.string (strOf (b.take (at_ + m)))) W) := fun W hB => conv_back (bytesAt_take (HV.out.below hB) (at_ + m) (by rw [HL.out]; omega)) (fun z hm => HZ.out z (List.mem_of_mem_take hm))
          have htkz : ∀ z ∈ b.take (at_ + m), 0 ≤ z ∧ z ≤ 255 := fun z hm => HZ.out z (List.mem_of_mem_take hm)
          by_cases heq : TL = b.take (at_ + m)
          · rw [if_neg (by simpa using heq)] at hrt3
            have HRR := Lib.hid hrt3
            have HEQ := Lib.hid heq
            clear hrt3 heq htkz htb hTL
            go_enter Try.func40, Try.ntmps40
            go_upto_region 17 with (first
            | (go_at_call 35; (with_reducible refine HG.out.mono ?_); rintro e w1 ⟨rfl, rfl⟩)
            | (go_at_call 29; (with_reducible refine (HTX.out _).mono ?_); rintro e w3 ⟨vx, rfl, hO, hB⟩; obtain ⟨x1, x2, rfl, -⟩ := hO.slice; have HX := Lib.hid (BytesAt.of_own hO); have HB3 := Lib.hid (hB); clear hO hB))
            obtain ⟨X, hX⟩ : ∃ X, strOf (b.take (at_ + m)) = X := ⟨_, rfl⟩
            have cz : ∀ n : Nat, (convert 40 9 (.slice x1 TL.length x2)).run Try.prog (w3.drewN n) = .ok (.string X) (w3.drewN n) := fun n => by
              have h := conv_back (HX.out.below (below_dn (Below.refl _ _) n)) HTB.out
              rw [HEQ.out, hX] at h
              rw [HEQ.out]; exact h
            have cb : ∀ n : Nat, (convert 40 9 (.slice (some ⟨g, off, none⟩) (at_ + m) cap)).run Try.prog (w3.drewN n) = .ok (.string X) (w3.drewN n) := fun n => by
              have h := HTK.out _ (below_dn HB3.out n)
              rw [hX] at h; exact h
            have cz0 := cz 0
            have cb0 := cb 0
            rw [show w3.drewN 0 = w3 from rfl] at cz0 cb0
            clear hX
            generalize TL.length = tn at *
            go_quiet (fail)
            go_wp2
            go_ret3
            rw [HRT.out, HRR.out]
            exact ⟨below_dn HB3.out _, rfl⟩
          · rw [if_pos heq] at hrt3
            have HRR := Lib.hid hrt3
            obtain ⟨X, hX⟩ : ∃ X, strOf (b.take (at_ + m)) = X := ⟨_, rfl⟩
            obtain ⟨Y, hY⟩ : ∃ Y, strOf TL = Y := ⟨_, rfl⟩
            have hxy : Y ≠ X := fun h => heq (strOf_inj htb htkz (by rw [hX, hY, h]))
            have hxy2 : (Y.toList == X.toList) = false := beq_eq_false_iff_ne.2 (fun h => hxy (by rw [ByteArray.toList_eq, ByteArray.toList_eq] at h; apply ByteArray.ext; exact Array.ext' h))
            have hxy3 : (Y.toList != X.toList) = true := by rw [bne, hxy2]; rfl
            have HXH := Lib.hid hX
            have HYH := Lib.hid hY
            clear hrt3 heq htkz htb hTL hxy hX hY
            go_enter Try.func40, Try.ntmps40
            go_upto_region 17 with (first
            | (go_at_call 35; (with_reducible refine HG.out.mono ?_); rintro e w1 ⟨rfl, rfl⟩)
            | (go_at_call 29; (with_reducible refine (HTX.out _).mono ?_); rintro e w3 ⟨vx, rfl, hO, hB⟩; obtain ⟨x1, x2, rfl, -⟩ := hO.slice; have HX := Lib.hid (BytesAt.of_own hO); have HB3 := Lib.hid (hB); clear hO hB))
            have cz : ∀ n : Nat, (convert 40 9 (.slice x1 TL.length x2)).run Try.prog (w3.drewN n) = .ok (.string Y) (w3.drewN n) := fun n => by
              have h := conv_back (HX.out.below (below_dn (Below.refl _ _) n)) HTB.out
              rw [HYH.out] at h; exact h
            have cb : ∀ n : Nat, (convert 40 9 (.slice (some ⟨g, off, none⟩) (at_ + m) cap)).run Try.prog (w3.drewN n) = .ok (.string X) (w3.drewN n) := fun n => by
              have h := HTK.out _ (below_dn HB3.out n)
              rw [HXH.out] at h; exact h
            have cz0 := cz 0
            have cb0 := cb 0
            rw [show w3.drewN 0 = w3 from rfl] at cz0 cb0
            generalize TL.length = tn at *
            go_quiet (fail)
            go_wp2
            go_ret3
            rw [HRT.out, HRR.out]
            exact ⟨below_dn HB3.out _, rfl⟩
  · have hee : errV e0 = .iface 49 (.int .i64 e0) := if_neg he
    rw [if_pos he] at hrt
    rw [hee] at HG
    have HRR := Lib.hid hrt
    have HEE := Lib.hid hee
    clear hrt hraw hok hee
    go_enter Try.func40, Try.ntmps40
    go_wp2_with (first
      | (go_at_call 35; (with_reducible refine HG.out.mono ?_); rintro e w1 ⟨rfl, rfl⟩))
    go_ret3
    rw [HRT.out, HRR.out, HEE.out]
    exact ⟨Below.refl _ _, rfl⟩
end Go.Proofs.Ytbbhinhledkceaa.HeadC
