/-
  The reference's Find and Rest, over routes that are right.
  Conditions: the lengths; the routes are right.
-/
import Derived.Test.YtijbploeleaabaaDoorRest
import Derived.Test.YtijbploeleaabaaDoorTokRef
import Derived.Test.YtijbploeleaabaaDoorPrint
import Derived.Deep.QuietTactic
import Derived.BigQuiet
import Derived.Deep.CutRange
namespace Go.Proofs.YtijbploeleaabaaDoor.RouteC
open Go.RowKit Go.Shelf RowsK LineC AfterL
set_option linter.unusedVariables false
set_option linter.unusedSimpArgs false

theorem ba_ext2 {a b : ByteArray} (h : a.data.toList = b.data.toList) : a = b := by
  cases a; cases b
  simpa using h
/-- Does a path begin so? By its first bytes. -/
theorem pre_eq (path rp : ByteArray) (h : rp.size ≤ path.size) : Lib.hasPrefix path.data.toList rp.data.toList = ((path.extract 0 rp.size).toList == rp.toList) := by
  rw [ByteArray.toList_eq, ByteArray.toList_eq, Lib.extract_data, List.drop_zero, Nat.sub_zero, Bool.eq_iff_iff, beq_iff_eq]
  unfold Lib.hasPrefix
  rw [List.isPrefixOf_iff_prefix, size_list rp]
  constructor
  · rintro ⟨t, ht⟩; rw [← ht, List.take_left]
  · intro e; rw [← e]; exact List.take_prefix _ _
theorem pre_long (path rp : ByteArray) (h : path.size < rp.size) : Lib.hasPrefix path.data.toList rp.data.toList = false := by
  rcases hb : Lib.hasPrefix path.data.toList rp.data.toList with _ | _
  · rfl
  · unfold Lib.hasPrefix at hb
    have := (List.isPrefixOf_iff_prefix.1 hb).length_le
    rw [← size_list, ← size_list] at this; omega
theorem rest_drop {r : RT} {path : ByteArray} (h : Lib.hasPrefix path.data.toList r.path.data.toList = true) : (restB r path).data.toList = path.data.toList.drop r.path.size := by
  unfold restB Lib.trimPrefix
  rw [if_pos h, size_list]
theorem suf47 (l : List UInt8) (d : UInt8) (h : l.getLast? = some d) : Lib.hasSuffix l [47] = (d == 47) := by
  rw [Bool.eq_iff_iff, beq_iff_eq]
  unfold Lib.hasSuffix
  rw [List.isSuffixOf_iff_suffix]
  constructor
  · rintro ⟨t, rfl⟩
    rw [List.getLast?_append] at h; simpa using h.symm
  · rintro rfl
    obtain ⟨t, ht⟩ := List.getLast?_eq_some_iff.1 h
    exact ⟨t, ht.symm⟩
theorem bne47 (c : UInt8) : ((c.toNat : Int) != 47) = !(c == 47) := by
  by_cases h : c = 47
  · subst h; rfl
  · have h2 : ¬ ((c.toNat : Int) = 47) := fun e => h (UInt8.toNat_inj.1 (by show c.toNat = 47; omega))
    rw [bne_iff_ne.2 h2, beq_eq_false_iff_ne.2 h]; rfl
set_option maxRecDepth 100000 in
set_option maxHeartbeats 16000000 in
theorem rfind_any (v : Value) (l : List RT) (host path : ByteArray) (w : World) (hl : At encR w v l) (hbad : ∀ r ∈ l, badR r = false) (hp : path.size ≤ maxLen) :
    Calls Tryd.prog 16 #[v, .string host, .string path] w fun e w' => e = .returned (.int .i64 (bestV (bestUpto l host path l.length))) ∧ Below w.heap.size w w' := by
  have HL := Lib.hid hl
  have HBD := Lib.hid hbad
  obtain ⟨a, cap, rfl, hcap, hcap2, _, _⟩ := hl
  unfold maxLen at hp
  obtain ⟨RR, hRR⟩ : ∃ R, bestV (bestUpto l host path l.length) = R := ⟨_, rfl⟩
  rw [hRR]
  have HR := Lib.hid hRR
  clear hbad hRR
  go_enter Tryd.func16, Tryd.ntmps16
  go_wp2
  go_loopw [7, 8] (fun bv iv wi => ∃ (i : Nat) (b : Option Nat), iv = .int .i64 i ∧ i ≤ l.length ∧ bestUpto l host path i = b ∧ bv = .int .i64 (bestV b) ∧ Below w.heap.size w wi) (fun bv iv _ => l.length - (intOf iv).toNat)
  case atStart => exact ⟨0, none, rfl, by omega, rfl, rfl, Below.refl _ _⟩
  case round =>
    obtain ⟨i, b, rfl, hi, hb, rfl, hB⟩ := hrel
    have HBE := Lib.hid hb
    clear hb
    by_cases hin : i < l.length
    · obtain ⟨ab, off, rfl, hab, hc⟩ := At.elem (HL.out.old hB) i hin
      obtain ⟨c0, c1, c2⟩ := hc i hin
      have HC := Lib.hid hc
      have hgd : l.getD i default = l[i] := by simp [List.getD, List.getElem?_eq_getElem hin]
      have hbr := HBD.out _ (List.getElem_mem hin)
      rw [← hgd] at hbr
      generalize hr : l.getD i default = r at *
      obtain ⟨s1, s2, s3⟩ := right_sizes hbr
      obtain ⟨t0, ht0⟩ := bad_path hbr
      clear hc hgd
      obtain ⟨rh, rp, rt⟩ := r
      simp only at c0 c1 c2 s1 s2 s3 ht0
      have hpos : 1 ≤ rp.size := by rw [size_list, ht0]; simp
      have hsz := hB.size
      obtain ⟨wo, rfl⟩ : ∃ wo : World, wo = wr := ⟨_, rfl⟩
      have hi0 : (0 : Int) ≤ (i : Int) := by omega
      have hi1 : (i : Int) < (l.length : Int) := by omega
      have hA := (Below.refl wo.heap.size wo).alloc (Nat.le_refl _) (.cells #[.string rh, .string rp, .string rt] 24)
      have hbf : ∀ k, b = some k → k < l.length := fun k hk => by rw [hk] at HBE; have := (bestUpto_fits HBE.out).1; omega
      have HBF := Lib.hid hbf
      have hstep : bestUpto l host path (i + 1) = if fitsB ⟨rh, rp, rt⟩ host path && better l b ⟨rh, rp, rt⟩ then some i else b := by
        show (if _ then _ else _) = _
        rw [hr, HBE.out]
      have HST := Lib.hid hstep
      have hkc : ∀ k, k < l.length → (wo.alloc (.cells #[.string rh, .string rp, .string rt] 24)).cell? ⟨ab, off + k * 3, none⟩ = some (.string (l.getD k default).host) ∧ (wo.alloc (.cells #[.string rh, .string rp, .string rt] 24)).cell? ⟨ab, off + k * 3 + 1, none⟩ = some (.string (l.getD k default).path) := fun k hk =>
        ⟨(hA.cell (p := ⟨ab, off + k * 3, none⟩) hab).trans (HC.out k hk).1, (hA.cell (p := ⟨ab, off + k * 3 + 1, none⟩) hab).trans (HC.out k hk).2.1⟩
      have HKC := Lib.hid hkc
      have hB3 : Below w.heap.size w (wo.alloc (.cells #[.string rh, .string rp, .string rt] 24)) := hB.alloc hsz _
      have hfits : fitsB ⟨rh, rp, rt⟩ host path = ((Lib.hasPrefix path.data.toList rp.data.toList && (rh.toList.isEmpty || rh.toList == host.toList)) && ((restB ⟨rh, rp, rt⟩ path).toList.isEmpty || (restB ⟨rh, rp, rt⟩ path).data.toList.head? == some 47 || Lib.hasSuffix rp.data.toList [47])) := rfl
      obtain ⟨PP, hPP⟩ : ∃ P, (Lib.hasPrefix path.data.toList rp.data.toList && (rh.toList.isEmpty || rh.toList == host.toList)) = P := ⟨_, rfl⟩
      obtain ⟨QQ, hQQ⟩ : ∃ Q, ((restB ⟨rh, rp, rt⟩ path).toList.isEmpty || (restB ⟨rh, rp, rt⟩ path).data.toList.head? == some 47 || Lib.hasSuffix rp.data.toList [47]) = Q := ⟨_, rfl⟩
      rw [hPP, hQQ] at hfits
      rw [hfits] at HST
      have HPP := Lib.hid hPP
      have HQQ := Lib.hid hQQ
      have HT0 := Lib.hid ht0
      clear hstep hr hkc hbf hA hbr hfits hPP hQQ ht0 HC
      go_upto_region 7 with fail
      have d0 : (wo.alloc (.cells #[.string rh, .string rp, .string rt] 24)).cell? ⟨wo.heap.size, 0, none⟩ = some (.string rh) := by simp
      have d1 : (wo.alloc (.cells #[.string rh, .string rp, .string rt] 24)).cell? ⟨wo.heap.size, 1, none⟩ = some (.string rp) := by simp
      generalize wo.alloc (.cells #[.string rh, .string rp, .string rt] 24) = w1 at *
      clear c0 c1 c2
      go_cut [46] from 11 to 95 (fun c wx => c = .bool (!PP) ∧ ∃ nq, wx = w1.drewN nq)
      case first =>
        by_cases hlong : path.size < rp.size
        · have hP : PP = false := by rw [← HPP.out, pre_long _ _ hlong]; rfl
          subst hP
          have f1 : decide ((path.size : Int) < (rp.size : Int)) = true := decide_eq_true (by omega)
          have f3 : decide (path.size < rp.size) = true := decide_eq_true (by omega)
          clear hlong
          go_quiet (fail)
          go_wp2
          go_meet
          exact ⟨rfl, _, rfl⟩
        · have f1 : (rp.size : Int) ≤ (path.size : Int) := by omega
          have f2 : rp.size ≤ path.size := by omega
          have f3 : decide ((path.size : Int) < (rp.size : Int)) = false := decide_eq_false (by omega)
          have f4 : decide (path.size < rp.size) = false := decide_eq_false (by omega)
          have hpe := pre_eq path rp f2
          rcases e0 : ((path.extract 0 rp.size).toList == rp.toList) with _ | _
          · have hP : PP = false := by rw [← HPP.out, hpe, e0]; rfl
            subst hP
            have e0' : ((path.extract 0 rp.size).toList != rp.toList) = true := by rw [bne, e0]; rfl
            clear hlong hpe
            go_quiet (fail)
            go_wp2
            go_meet
            exact ⟨rfl, _, rfl⟩
          · have e0' : ((path.extract 0 rp.size).toList != rp.toList) = false := by rw [bne, e0]; rfl
            rcases e1 : rh.toList.isEmpty with _ | _
            · rcases e2 : (rh.toList == host.toList) with _ | _
              · have hP : PP = false := by rw [← HPP.out, e1, e2]; simp
                subst hP
                have e2' : (rh.toList != host.toList) = true := by rw [bne, e2]; rfl
                clear hlong hpe
                go_quiet (fail)
                go_wp2
                go_meet
                exact ⟨rfl, _, rfl⟩
              · have hP : PP = true := by rw [← HPP.out, hpe, e0, e2]; simp
                subst hP
                have e2' : (rh.toList != host.toList) = false := by rw [bne, e2]; rfl
                clear hlong hpe
                go_quiet (fail)
                go_wp2
                go_meet
                exact ⟨rfl, _, rfl⟩
            · have hP : PP = true := by rw [← HPP.out, hpe, e0, e1]; simp
              subst hP
              clear hlong hpe
              go_quiet (fail)
              go_wp2
              go_meet
              exact ⟨rfl, _, rfl⟩
      case rest =>
        obtain ⟨rfl, nq, rfl⟩ := hcut
        rcases PP with _ | _
        · rw [Bool.false_and, Bool.false_and] at HST
          go_wp2
          go_roundw
          case rel => exact ⟨i + 1, b, rfl, by omega, HST.out, rfl, below_drewN' hB3 _⟩
          case measure => show l.length - ((i : Int) + 1).toNat < l.length - (i : Int).toNat; omega
        · rw [Bool.true_and] at HST
          have hpre : Lib.hasPrefix path.data.toList rp.data.toList = true := by have := HPP.out; simp only [Bool.and_eq_true] at this; exact this.1
          have hrd := rest_drop (r := ⟨rh, rp, rt⟩) hpre
          simp only at hrd
          have hple : rp.size ≤ path.size := by
            rcases Nat.lt_or_ge path.size rp.size with h | h
            · rw [pre_long _ _ h] at hpre; cases hpre
            · exact h
          obtain ⟨d, hd⟩ : ∃ d, rp.data.toList[rp.size - 1]? = some d := ⟨_, List.getElem?_eq_getElem (by rw [← size_list]; omega)⟩
          have hid := sidx rp (rp.size - 1) ((rp.size : Int) - 1) (by omega) d hd
          have hsf := suf47 rp.data.toList d (by rw [List.getLast?_eq_getElem?, ← size_list]; exact hd)
          have hqq := HQQ.out
          rw [emp_list, hrd, hsf] at hqq
          have g0 : 0 ≤ (rp.size : Int) - 1 := by omega
          have g1 : (rp.size : Int) - 1 < (rp.size : Int) := by omega
          have g2 : (0 : Int) ≤ (rp.size : Int) := by omega
          have hbd := bne47 d
          go_upto_region 8 with fail
          go_cut [64] from 11 to 95 (fun c wx => c = .bool (!QQ) ∧ wx = w1.drewN nq)
          case first =>
            by_cases heq : path.size = rp.size
            · have hQ : QQ = true := by rw [← hqq, List.drop_of_length_le (by rw [← size_list]; omega)]; rfl
              subst hQ
              have f1 : (path.size : Int) ≤ (rp.size : Int) := by omega
              clear heq hqq hrd hpre hsf hbd hd
              go_wp2
              go_meet
              exact ⟨rfl, rfl⟩
            · have f1 : (rp.size : Int) < (path.size : Int) := by omega
              have hlt : rp.size < path.data.toList.length := by rw [← size_list]; omega
              obtain ⟨c, hc⟩ : ∃ c, path.data.toList[rp.size]? = some c := ⟨_, List.getElem?_eq_getElem hlt⟩
              have hic := sidx path rp.size _ rfl c hc
              have hbc := bne47 c
              rw [List.drop_eq_getElem_cons hlt] at hqq
              have hcc : path.data.toList[rp.size] = c := by rw [List.getElem?_eq_getElem hlt] at hc; exact Option.some.inj hc
              rw [hcc] at hqq
              have hq2 : ((c == 47) || (d == 47)) = QQ := by rw [← hqq]; simp
              clear heq hqq hrd hpre hsf hd hc hcc hlt
              rcases e3 : (c == 47) with _ | _
              · rcases e4 : (d == 47) with _ | _
                · have hQ : QQ = false := by rw [← hq2, e3, e4]; rfl
                  subst hQ
                  rw [e3] at hbc
                  rw [e4] at hbd
                  clear hq2 e3 e4
                  go_wp2
                  go_meet
                  exact ⟨rfl, rfl⟩
                · have hQ : QQ = true := by rw [← hq2, e3, e4]; rfl
                  subst hQ
                  rw [e3] at hbc
                  rw [e4] at hbd
                  clear hq2 e3 e4
                  go_wp2
                  go_meet
                  exact ⟨rfl, rfl⟩
              · have hQ : QQ = true := by rw [← hq2, e3]; rfl
                subst hQ
                rw [e3] at hbc
                clear hq2 e3 hbd
                go_wp2
                go_meet
                exact ⟨rfl, rfl⟩
          case rest =>
            obtain ⟨rfl, rfl⟩ := hcut
            clear hqq hrd hpre hsf hbd hd hid
            rcases QQ with _ | _
            · rw [Bool.false_and] at HST
              go_wp2
              go_roundw
              case rel => exact ⟨i + 1, b, rfl, by omega, HST.out, rfl, below_drewN' hB3 _⟩
              case measure => show l.length - ((i : Int) + 1).toNat < l.length - (i : Int).toNat; omega
            · rw [Bool.true_and] at HST
              rcases b with _ | k
              · simp only [bestV]
                change Hid (bestUpto l host path (i + 1) = some i) at HST
                go_wp2
                go_roundw
                case rel => exact ⟨i + 1, some i, rfl, by omega, HST.out, rfl, below_drewN' hB3 _⟩
                case measure => show l.length - ((i : Int) + 1).toNat < l.length - (i : Int).toNat; omega
              · obtain ⟨ck0, ck1⟩ := HKC.out k (HBF.out k rfl)
                have hkl := HBF.out k rfl
                have hstep : bestUpto l host path (i + 1) = if (decide ((l.getD k default).path.size < rp.size) || (decide (rp.size = (l.getD k default).path.size) && (l.getD k default).host.toList.isEmpty)) then some i else some k := HST.out
                generalize l.getD k default = lk at *
                obtain ⟨kh, kp, kt⟩ := lk
                simp only at ck0 ck1 hstep
                have hk0 : (0 : Int) ≤ (k : Int) := by omega
                have hk1 : (k : Int) < (l.length : Int) := by omega
                have hk2 : (decide ((k : Int) < 0)) = false := decide_eq_false (by omega)
                simp only [bestV]
                clear HST
                rcases Nat.lt_trichotomy kp.size rp.size with hlt | heq | hgt
                · rw [decide_eq_true hlt] at hstep
                  have HST := Lib.hid hstep
                  have hd1 : (decide ((kp.size : Int) < (rp.size : Int))) = true := decide_eq_true (by omega)
                  clear hstep
                  go_wp2
                  go_roundw
                  case rel => exact ⟨i + 1, some i, rfl, by omega, HST.out, rfl, below_drewN' hB3 _⟩
                  case measure => show l.length - ((i : Int) + 1).toNat < l.length - (i : Int).toNat; omega
                · rw [decide_eq_false (p := kp.size < rp.size) (by omega), decide_eq_true heq.symm] at hstep
                  have hd1 : (decide ((kp.size : Int) < (rp.size : Int))) = false := decide_eq_false (by omega)
                  have hd2 : (decide (kp.size < rp.size)) = false := decide_eq_false (by omega)
                  have hd3 : ((rp.size : Int) == (kp.size : Int)) = true := by simp [heq]
                  have hd4 : (rp.size == kp.size) = true := by simp [heq]
                  rcases he : kh.toList.isEmpty with _ | _
                  · rw [he] at hstep
                    have HST := Lib.hid hstep
                    clear hstep heq
                    go_wp2
                    go_roundw
                    case rel => exact ⟨i + 1, some k, rfl, by omega, HST.out, rfl, below_drewN' hB3 _⟩
                    case measure => show l.length - ((i : Int) + 1).toNat < l.length - (i : Int).toNat; omega
                  · rw [he] at hstep
                    have HST := Lib.hid hstep
                    clear hstep heq
                    go_wp2
                    go_roundw
                    case rel => exact ⟨i + 1, some i, rfl, by omega, HST.out, rfl, below_drewN' hB3 _⟩
                    case measure => show l.length - ((i : Int) + 1).toNat < l.length - (i : Int).toNat; omega
                · rw [decide_eq_false (p := kp.size < rp.size) (by omega), decide_eq_false (p := rp.size = kp.size) (by omega)] at hstep
                  have HST := Lib.hid hstep
                  have hd1 : (decide ((kp.size : Int) < (rp.size : Int))) = false := decide_eq_false (by omega)
                  have hd2 : (decide (kp.size < rp.size)) = false := decide_eq_false (by omega)
                  have hd3 : ((rp.size : Int) == (kp.size : Int)) = false := beq_eq_false_iff_ne.2 (by omega)
                  have hd4 : (rp.size == kp.size) = false := beq_eq_false_iff_ne.2 (by omega)
                  clear hstep
                  go_wp2
                  go_roundw
                  case rel => exact ⟨i + 1, some k, rfl, by omega, HST.out, rfl, below_drewN' hB3 _⟩
                  case measure => show l.length - ((i : Int) + 1).toNat < l.length - (i : Int).toNat; omega
    · obtain rfl : i = l.length := by omega
      have hrr : bestV b = RR := by rw [← HR.out, HBE.out]
      have HRR := Lib.hid hrr
      generalize bestV b = q at *
      clear hrr
      go_wp2
      go_ret
      exact ⟨by rw [← HRR.out]; rfl, hB⟩
theorem hp47r (l : List UInt8) (c : UInt8) (h : l[0]? = some c) : ((c.toNat : Int) != 47) = !Lib.hasPrefix l [47] := by
  rcases l with _ | ⟨a, t⟩
  · cases h
  · obtain rfl : a = c := by simpa using h
    rw [bne47]
    unfold Lib.hasPrefix
    rw [List.isPrefixOf_cons_cons]
    by_cases h1 : a = 47
    · subst h1; rfl
    · rw [beq_eq_false_iff_ne.2 h1, beq_eq_false_iff_ne.2 (fun e => h1 e.symm)]; rfl
set_option maxRecDepth 100000 in
set_option maxHeartbeats 4000000 in
theorem rrest_any (r : RT) (host path : ByteArray) (w : World) (hbad : badR r = false) (hf : fitsB r host path = true) (hp : path.size ≤ maxLen) :
    Calls Tryd.prog 17 #[.agg #[.string r.host, .string r.path, .string r.dest], .string path] w fun e w' => e = .returned (.string (restF r path)) ∧ Below w.heap.size w w' := by
  unfold maxLen at hp
  obtain ⟨hq, hpl⟩ := rest_size hbad hf
  have hpre : Lib.hasPrefix path.data.toList r.path.data.toList = true := by unfold fitsB at hf; simp only [Bool.and_eq_true] at hf; exact hf.1.1
  have hrd := rest_drop hpre
  have hex : path.extract r.path.size path.size = restB r path := ba_ext2 (by rw [Lib.extract_to_end, hrd])
  have hsz : r.path.size ≤ path.size := by
    rcases Nat.lt_or_ge path.size r.path.size with h | h
    · rw [pre_long _ _ h] at hpre; cases hpre
    · exact h
  have hA := (Below.refl w.heap.size w).alloc (Nat.le_refl _) (.cells #[.string r.host, .string r.path, .string r.dest] 24)
  have hrf : restF r path = if Lib.hasPrefix (restB r path).data.toList [47] then restB r path else ⟨#[47]⟩ ++ restB r path := rfl
  rw [hrf]
  obtain ⟨rh, rp, rt⟩ := r
  simp only at *
  have hcat : ¬ 9223372036854775807 < 1 + (restB ⟨rh, rp, rt⟩ path).size := by omega
  generalize restB ⟨rh, rp, rt⟩ path = q at *
  have k0 : (0 : Int) ≤ (rp.size : Int) := by omega
  have k1 : (rp.size : Int) ≤ (path.size : Int) := by omega
  clear hpre hrd hrf hpl hf hbad
  rcases hl : q.data.toList with _ | ⟨c, t⟩
  · have he : q.toList.isEmpty = true := by rw [emp_list, hl]; rfl
    rw [show Lib.hasPrefix ([] : List UInt8) [47] = false from rfl]
    simp only [Bool.false_eq_true, if_false]
    clear hl hq
    go_enter Tryd.func17, Tryd.ntmps17
    go_wp2
    go_ret
    exact ⟨rfl, hA⟩
  · have he : q.toList.isEmpty = false := by rw [emp_list, hl]; rfl
    have h47 := hp47r (c :: t) c rfl
    have hix := sidx q 0 0 rfl c (by rw [hl]; rfl)
    have hqs : (0 : Int) < (q.size : Int) := by rw [size_list, hl]; simp
    generalize Lib.hasPrefix (c :: t) [47] = bp at *
    clear hl hq
    rcases bp with _ | _
    · simp only [Bool.false_eq_true, if_false]
      go_enter Tryd.func17, Tryd.ntmps17
      go_wp2
      go_ret
      exact ⟨rfl, hA⟩
    · simp only [if_true]
      go_enter Tryd.func17, Tryd.ntmps17
      go_wp2
      go_ret
      exact ⟨rfl, hA⟩
end Go.Proofs.YtijbploeleaabaaDoor.RouteC
