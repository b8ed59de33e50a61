/-
  Which route is one for a request: package route's Find.
  Conditions: the length of the list.
-/
import Derived.Test.YteadmakhcpjpnaaDoorFits
import Derived.Test.YteadmakhcpjpnaaDoorAfter
import Derived.Deep.CutBlock
namespace Go.Proofs.YteadmakhcpjpnaaDoor.RouteC
open Go.RowKit Go.Shelf RowsK LineC AfterL
set_option linter.unusedVariables false
set_option linter.unusedSimpArgs false

/-- Does a route that fits go ahead of the best so far? -/
def better (l : List RT) (b : Option Nat) (r : RT) : Bool := match b with
  | none => true
  | some k => decide ((l.getD k default).path.size < r.path.size) || (decide (r.path.size = (l.getD k default).path.size) && (l.getD k default).host.toList.isEmpty)
def bestUpto (l : List RT) (host path : ByteArray) : Nat → Option Nat
  | 0 => none
  | n + 1 => if fitsB (l.getD n default) host path && better l (bestUpto l host path n) (l.getD n default) then some n else bestUpto l host path n
theorem bestUpto_fits {l : List RT} {host path : ByteArray} : ∀ {n k : Nat}, bestUpto l host path n = some k → k < n ∧ fitsB (l.getD k default) host path = true
  | 0, k, h => by cases h
  | n + 1, k, h => by
    unfold bestUpto at h
    split at h
    · rename_i hc
      obtain rfl := Option.some.inj h
      rw [Bool.and_eq_true] at hc
      exact ⟨Nat.lt_succ_self _, hc.1⟩
    · have := bestUpto_fits h
      exact ⟨by omega, this.2⟩
def bestV : Option Nat → Int
  | none => -1
  | some k => k
def findE (l : List RT) (host path : ByteArray) : Int × Int := if checkE l ≠ 0 then (0, checkE l) else match bestUpto l host path l.length with
  | none => (0, 5)
  | some k => (k, 0)
theorem At.elem {w : World} {a : Option Addr} {n cap : Nat} {l : List RT} (h : At encR w (.slice a n cap) l) (i : Nat) (hi : i < l.length) : ∃ b off, a = some ⟨b, off, none⟩ ∧ b < w.heap.size ∧
    ∀ k, k < l.length → w.cell? ⟨b, off + k * 3, none⟩ = some (.string (l.getD k default).host) ∧ w.cell? ⟨b, off + k * 3 + 1, none⟩ = some (.string (l.getD k default).path) ∧ w.cell? ⟨b, off + k * 3 + 2, none⟩ = some (.string (l.getD k default).dest) := by
  obtain ⟨a', cap', e, _, _, _, hel⟩ := h
  simp only [Value.slice.injEq] at e
  obtain ⟨rfl, rfl, rfl⟩ := e
  obtain ⟨b, off, rfl, hb, _⟩ := hel i hi
  refine ⟨b, off, rfl, hb, fun k hk => ?_⟩
  obtain ⟨b', off', e, _, h⟩ := hel k hk
  simp only [Option.some.injEq, Addr.mk.injEq, and_true] at e
  obtain ⟨rfl, rfl⟩ := e
  have hgd : l.getD k default = l[k] := by simp [List.getD, List.getElem?_eq_getElem hk]
  rw [hgd]
  have h0 := h 0 (by decide)
  have h1 := h 1 (by decide)
  have h2 := h 2 (by decide)
  rw [← Nat.add_assoc] at h0 h1 h2
  exact ⟨h0, h1, h2⟩
set_option maxRecDepth 100000 in
set_option maxHeartbeats 8000000 in
theorem find_any (v : Value) (l : List RT) (host path : ByteArray) (w : World) (hl : At encR w v l) (hs : ∀ r ∈ l, r.path.size ≤ maxLen) :
    Calls Tryd.prog 8 #[v, .string host, .string path] w fun e w' => e = .returned (.tuple #[.int .i64 (findE l host path).1, errV (findE l host path).2]) ∧ Below w.heap.size w w' := by
  have HL := Lib.hid hl
  have HCK := Lib.hid (check_any v l w hl)
  obtain ⟨a, cap, rfl, hcap, hcap2, _, _⟩ := hl
  by_cases hck : checkE l = 0
  · rw [hck] at HCK
    change Hid (Calls Tryd.prog 15 #[.slice a l.length cap] w fun e w' => e = .returned .nilIface ∧ Below w.heap.size w w') at HCK
    have hr : findE l host path = (match bestUpto l host path l.length with | none => (0, 5) | some k => (k, 0)) := by unfold findE; rw [if_neg (by simp [hck])]
    have HR := Lib.hid hr
    clear hr hck
    go_enter Tryd.func8, Tryd.ntmps8
    go_wp2_with (go_at_call 15; (with_reducible refine HCK.out.mono ?_); rintro e w1 ⟨rfl, hB1⟩)
    clear HCK
    go_loopw [9, 19] (fun bv iv wi => ∃ (i : Nat) (b : Option Nat), iv = .int .i64 i ∧ i ≤ l.length ∧ bestUpto l host path i = b ∧ bv = .int .i64 (bestV b) ∧ Below w.heap.size w wi) (fun bv iv _ => l.length - (intOf iv).toNat)
    case atStart => exact ⟨0, none, rfl, by omega, rfl, rfl, hB1⟩
    case round =>
      obtain ⟨i, b, rfl, hi, hb, rfl, hB⟩ := hrel
      have HBE := Lib.hid hb
      clear hb hB1
      by_cases hin : i < l.length
      · obtain ⟨ab, off, rfl, hab, hc⟩ := At.elem (HL.out.old hB) i hin
        obtain ⟨c0, c1, c2⟩ := hc i hin
        have HC := Lib.hid hc
        have hpl : (l.getD i default).path.size ≤ 9223372036854775807 := by
          have := hs (l.getD i default) (by rw [show l.getD i default = l[i] by simp [List.getD, List.getElem?_eq_getElem hin]]; exact List.getElem_mem hin)
          unfold maxLen at this; omega
        generalize hr : l.getD i default = r at *
        have HF := Lib.hid (fun w => fits_any r host path w hpl)
        clear hc
        obtain ⟨rh, rp, rt⟩ := r
        simp only at c0 c1 c2 HF
        have hsz := hB.size
        obtain ⟨wo, rfl⟩ : ∃ wo : World, wo = wr := ⟨_, rfl⟩
        have hi0 : (0 : Int) ≤ (i : Int) := by omega
        have hi1 : (i : Int) < (l.length : Int) := by omega
        have hA := (Below.refl wo.heap.size wo).alloc (Nat.le_refl _) (.cells #[.string rh, .string rp, .string rt] 28)
        have hbf : ∀ k, b = some k → k < l.length := fun k hk => by rw [hk] at HBE; have := (bestUpto_fits HBE.out).1; omega
        have hstep : bestUpto l host path (i + 1) = if fitsB ⟨rh, rp, rt⟩ host path && better l b ⟨rh, rp, rt⟩ then some i else b := by
          show (if _ then _ else _) = _
          rw [hr, HBE.out]
        have HST := Lib.hid hstep
        clear hstep hr
        rcases hf : fitsB ⟨rh, rp, rt⟩ host path with _ | _
        · rw [hf] at HF HST
          go_upto_region 8 with fail
          have d0 : (wo.alloc (.cells #[.string rh, .string rp, .string rt] 28)).cell? ⟨wo.heap.size, 0, none⟩ = some (.string rh) := by simp
          have d1 : (wo.alloc (.cells #[.string rh, .string rp, .string rt] 28)).cell? ⟨wo.heap.size, 1, none⟩ = some (.string rp) := by simp
          have d2 : (wo.alloc (.cells #[.string rh, .string rp, .string rt] 28)).cell? ⟨wo.heap.size, 2, none⟩ = some (.string rt) := by simp
          generalize wo.alloc (.cells #[.string rh, .string rp, .string rt] 28) = w1 at *
          have q0 : ∀ n : After w1, n.1.cell? ⟨wo.heap.size, 0, none⟩ = some (.string rh) := fun n => n.cell d0
          have q1 : ∀ n : After w1, n.1.cell? ⟨wo.heap.size, 1, none⟩ = some (.string rp) := fun n => n.cell d1
          have q2 : ∀ n : After w1, n.1.cell? ⟨wo.heap.size, 2, none⟩ = some (.string rt) := fun n => n.cell d2
          clear c0 c1 c2 d0 d1 d2
          refine wp_region_after w1 (Below.refl _ _) (by kernel_rfl) (by kernel_rfl) ?_
          repeat (go_big_quiet_step (((go_at_call 18); refine After.call (HF.out _))))
          refine wpQuiet_nil ?_
          rintro w2 ⟨n2, rfl⟩
          obtain ⟨w2, hB2⟩ := n2
          simp only
          clear q0 q1 q2
          have hB3 : Below w.heap.size w w2 := hB.trans (hA.trans_below hB2 hsz)
          clear hB2
          go_wp2
          case roundEnd => exact ⟨⟨i + 1, b, rfl, by omega, HST.out.trans (by simp), rfl, hB3⟩, (by show l.length - ((i : Int) + 1).toNat < l.length - (i : Int).toNat; omega)⟩
        · rw [hf] at HF HST
          rcases b with _ | k
          · change Hid (bestUpto l host path (i + 1) = some i) at HST
            simp only [bestV]
            go_upto_region 8 with fail
            have d0 : (wo.alloc (.cells #[.string rh, .string rp, .string rt] 28)).cell? ⟨wo.heap.size, 0, none⟩ = some (.string rh) := by simp
            have d1 : (wo.alloc (.cells #[.string rh, .string rp, .string rt] 28)).cell? ⟨wo.heap.size, 1, none⟩ = some (.string rp) := by simp
            have d2 : (wo.alloc (.cells #[.string rh, .string rp, .string rt] 28)).cell? ⟨wo.heap.size, 2, none⟩ = some (.string rt) := by simp
            generalize wo.alloc (.cells #[.string rh, .string rp, .string rt] 28) = w1 at *
            have q0 : ∀ n : After w1, n.1.cell? ⟨wo.heap.size, 0, none⟩ = some (.string rh) := fun n => n.cell d0
            have q1 : ∀ n : After w1, n.1.cell? ⟨wo.heap.size, 1, none⟩ = some (.string rp) := fun n => n.cell d1
            have q2 : ∀ n : After w1, n.1.cell? ⟨wo.heap.size, 2, none⟩ = some (.string rt) := fun n => n.cell d2
            clear c0 c1 c2 d0 d1 d2
            refine wp_region_after w1 (Below.refl _ _) (by kernel_rfl) (by kernel_rfl) ?_
            repeat (go_big_quiet_step (((go_at_call 18); refine After.call (HF.out _))))
            refine wpQuiet_nil ?_
            rintro w2 ⟨n2, rfl⟩
            obtain ⟨w2, hB2⟩ := n2
            simp only
            clear q0 q1 q2
            have hB3 : Below w.heap.size w w2 := hB.trans (hA.trans_below hB2 hsz)
            clear hB2
            go_wp2
            case roundEnd => exact ⟨⟨i + 1, some i, rfl, by omega, HST.out.trans (by simp), rfl, hB3⟩, (by show l.length - ((i : Int) + 1).toNat < l.length - (i : Int).toNat; omega)⟩
          · have hkl := hbf k rfl
            obtain ⟨ck0, ck1, _⟩ := HC.out k hkl
            have hstep : bestUpto l host path (i + 1) = if (decide ((l.getD k default).path.size < rp.size) || (decide (rp.size = (l.getD k default).path.size) && (l.getD k default).host.toList.isEmpty)) then some i else some k := HST.out
            generalize l.getD k default = lk at *
            obtain ⟨kh, kp, kt⟩ := lk
            simp only at ck0 ck1 hstep
            have hk0 : (0 : Int) ≤ (k : Int) := by omega
            have hk1 : (k : Int) < (l.length : Int) := by omega
            have hk2 : (decide ((k : Int) < 0)) = false := decide_eq_false (by omega)
            simp only [bestV]
            clear HST
            rcases Nat.lt_trichotomy kp.size rp.size with hlt | heq | hgt
            · rw [decide_eq_true hlt] at hstep
              have HST := Lib.hid hstep
              have hd1 : (decide ((kp.size : Int) < (rp.size : Int))) = true := decide_eq_true (by omega)
              clear hstep
              go_upto_region 8 with fail
              have d0 : (wo.alloc (.cells #[.string rh, .string rp, .string rt] 28)).cell? ⟨wo.heap.size, 0, none⟩ = some (.string rh) := by simp
              have d1 : (wo.alloc (.cells #[.string rh, .string rp, .string rt] 28)).cell? ⟨wo.heap.size, 1, none⟩ = some (.string rp) := by simp
              have d2 : (wo.alloc (.cells #[.string rh, .string rp, .string rt] 28)).cell? ⟨wo.heap.size, 2, none⟩ = some (.string rt) := by simp
              have k0 := (hA.cell (p := ⟨ab, off + k * 3, none⟩) hab).trans ck0
              have k1 := (hA.cell (p := ⟨ab, off + k * 3 + 1, none⟩) hab).trans ck1
              clear ck0 ck1
              generalize wo.alloc (.cells #[.string rh, .string rp, .string rt] 28) = w1 at *
              have q0 : ∀ n : After w1, n.1.cell? ⟨wo.heap.size, 0, none⟩ = some (.string rh) := fun n => n.cell d0
              have q1 : ∀ n : After w1, n.1.cell? ⟨wo.heap.size, 1, none⟩ = some (.string rp) := fun n => n.cell d1
              have q2 : ∀ n : After w1, n.1.cell? ⟨wo.heap.size, 2, none⟩ = some (.string rt) := fun n => n.cell d2
              have q3 : ∀ n : After w1, n.1.cell? ⟨ab, off + k * 3, none⟩ = some (.string kh) := fun n => n.cell k0
              have q4 : ∀ n : After w1, n.1.cell? ⟨ab, off + k * 3 + 1, none⟩ = some (.string kp) := fun n => n.cell k1
              clear k0 k1
              clear c0 c1 c2 d0 d1 d2
              refine wp_region_after w1 (Below.refl _ _) (by kernel_rfl) (by kernel_rfl) ?_
              repeat (go_big_quiet_step (((go_at_call 18); refine After.call (HF.out _))))
              refine wpQuiet_nil ?_
              rintro w2 ⟨n2, rfl⟩
              obtain ⟨w2, hB2⟩ := n2
              simp only
              clear q0 q1 q2 q3 q4
              have hB3 : Below w.heap.size w w2 := hB.trans (hA.trans_below hB2 hsz)
              clear hB2
              go_wp2
              case roundEnd => exact ⟨⟨i + 1, some i, rfl, by omega, HST.out.trans (by simp), rfl, hB3⟩, (by show l.length - ((i : Int) + 1).toNat < l.length - (i : Int).toNat; omega)⟩
            · rw [decide_eq_false (p := kp.size < rp.size) (by omega), decide_eq_true heq.symm] at hstep
              have hd1 : (decide ((kp.size : Int) < (rp.size : Int))) = false := decide_eq_false (by omega)
              have hd2 : (decide (kp.size < rp.size)) = false := decide_eq_false (by omega)
              have hd3 : ((rp.size : Int) == (kp.size : Int)) = true := by simp [heq]
              have hd4 : (rp.size == kp.size) = true := by simp [heq]
              rcases he : kh.toList.isEmpty with _ | _
              · rw [he] at hstep
                have HST := Lib.hid hstep
                clear hstep
                go_upto_region 8 with fail
                have d0 : (wo.alloc (.cells #[.string rh, .string rp, .string rt] 28)).cell? ⟨wo.heap.size, 0, none⟩ = some (.string rh) := by simp
                have d1 : (wo.alloc (.cells #[.string rh, .string rp, .string rt] 28)).cell? ⟨wo.heap.size, 1, none⟩ = some (.string rp) := by simp
                have d2 : (wo.alloc (.cells #[.string rh, .string rp, .string rt] 28)).cell? ⟨wo.heap.size, 2, none⟩ = some (.string rt) := by simp
                have k0 := (hA.cell (p := ⟨ab, off + k * 3, none⟩) hab).trans ck0
                have k1 := (hA.cell (p := ⟨ab, off + k * 3 + 1, none⟩) hab).trans ck1
                clear ck0 ck1
                generalize wo.alloc (.cells #[.string rh, .string rp, .string rt] 28) = w1 at *
                have q0 : ∀ n : After w1, n.1.cell? ⟨wo.heap.size, 0, none⟩ = some (.string rh) := fun n => n.cell d0
                have q1 : ∀ n : After w1, n.1.cell? ⟨wo.heap.size, 1, none⟩ = some (.string rp) := fun n => n.cell d1
                have q2 : ∀ n : After w1, n.1.cell? ⟨wo.heap.size, 2, none⟩ = some (.string rt) := fun n => n.cell d2
                have q3 : ∀ n : After w1, n.1.cell? ⟨ab, off + k * 3, none⟩ = some (.string kh) := fun n => n.cell k0
                have q4 : ∀ n : After w1, n.1.cell? ⟨ab, off + k * 3 + 1, none⟩ = some (.string kp) := fun n => n.cell k1
                clear k0 k1
                clear c0 c1 c2 d0 d1 d2
                refine wp_region_after w1 (Below.refl _ _) (by kernel_rfl) (by kernel_rfl) ?_
                repeat (go_big_quiet_step (((go_at_call 18); refine After.call (HF.out _))))
                refine wpQuiet_nil ?_
                rintro w2 ⟨n2, rfl⟩
                obtain ⟨w2, hB2⟩ := n2
                simp only
                clear q0 q1 q2 q3 q4
                have hB3 : Below w.heap.size w w2 := hB.trans (hA.trans_below hB2 hsz)
                clear hB2
                go_wp2
                case roundEnd => exact ⟨⟨i + 1, some k, rfl, by omega, HST.out.trans (by simp), rfl, hB3⟩, (by show l.length - ((i : Int) + 1).toNat < l.length - (i : Int).toNat; omega)⟩
              · rw [he] at hstep
                have HST := Lib.hid hstep
                clear hstep
                go_upto_region 8 with fail
                have d0 : (wo.alloc (.cells #[.string rh, .string rp, .string rt] 28)).cell? ⟨wo.heap.size, 0, none⟩ = some (.string rh) := by simp
                have d1 : (wo.alloc (.cells #[.string rh, .string rp, .string rt] 28)).cell? ⟨wo.heap.size, 1, none⟩ = some (.string rp) := by simp
                have d2 : (wo.alloc (.cells #[.string rh, .string rp, .string rt] 28)).cell? ⟨wo.heap.size, 2, none⟩ = some (.string rt) := by simp
                have k0 := (hA.cell (p := ⟨ab, off + k * 3, none⟩) hab).trans ck0
                have k1 := (hA.cell (p := ⟨ab, off + k * 3 + 1, none⟩) hab).trans ck1
                clear ck0 ck1
                generalize wo.alloc (.cells #[.string rh, .string rp, .string rt] 28) = w1 at *
                have q0 : ∀ n : After w1, n.1.cell? ⟨wo.heap.size, 0, none⟩ = some (.string rh) := fun n => n.cell d0
                have q1 : ∀ n : After w1, n.1.cell? ⟨wo.heap.size, 1, none⟩ = some (.string rp) := fun n => n.cell d1
                have q2 : ∀ n : After w1, n.1.cell? ⟨wo.heap.size, 2, none⟩ = some (.string rt) := fun n => n.cell d2
                have q3 : ∀ n : After w1, n.1.cell? ⟨ab, off + k * 3, none⟩ = some (.string kh) := fun n => n.cell k0
                have q4 : ∀ n : After w1, n.1.cell? ⟨ab, off + k * 3 + 1, none⟩ = some (.string kp) := fun n => n.cell k1
                clear k0 k1
                clear c0 c1 c2 d0 d1 d2
                refine wp_region_after w1 (Below.refl _ _) (by kernel_rfl) (by kernel_rfl) ?_
                repeat (go_big_quiet_step (((go_at_call 18); refine After.call (HF.out _))))
                refine wpQuiet_nil ?_
                rintro w2 ⟨n2, rfl⟩
                obtain ⟨w2, hB2⟩ := n2
                simp only
                clear q0 q1 q2 q3 q4
                have hB3 : Below w.heap.size w w2 := hB.trans (hA.trans_below hB2 hsz)
                clear hB2
                go_wp2
                case roundEnd => exact ⟨⟨i + 1, some i, rfl, by omega, HST.out.trans (by simp), rfl, hB3⟩, (by show l.length - ((i : Int) + 1).toNat < l.length - (i : Int).toNat; omega)⟩
            · rw [decide_eq_false (p := kp.size < rp.size) (by omega), decide_eq_false (p := rp.size = kp.size) (by omega)] at hstep
              have HST := Lib.hid hstep
              have hd1 : (decide ((kp.size : Int) < (rp.size : Int))) = false := decide_eq_false (by omega)
              have hd2 : (decide (kp.size < rp.size)) = false := decide_eq_false (by omega)
              have hd3 : ((rp.size : Int) == (kp.size : Int)) = false := beq_eq_false_iff_ne.2 (by omega)
              have hd4 : (rp.size == kp.size) = false := beq_eq_false_iff_ne.2 (by omega)
              clear hstep
              go_upto_region 8 with fail
              have d0 : (wo.alloc (.cells #[.string rh, .string rp, .string rt] 28)).cell? ⟨wo.heap.size, 0, none⟩ = some (.string rh) := by simp
              have d1 : (wo.alloc (.cells #[.string rh, .string rp, .string rt] 28)).cell? ⟨wo.heap.size, 1, none⟩ = some (.string rp) := by simp
              have d2 : (wo.alloc (.cells #[.string rh, .string rp, .string rt] 28)).cell? ⟨wo.heap.size, 2, none⟩ = some (.string rt) := by simp
              have k0 := (hA.cell (p := ⟨ab, off + k * 3, none⟩) hab).trans ck0
              have k1 := (hA.cell (p := ⟨ab, off + k * 3 + 1, none⟩) hab).trans ck1
              clear ck0 ck1
              generalize wo.alloc (.cells #[.string rh, .string rp, .string rt] 28) = w1 at *
              have q0 : ∀ n : After w1, n.1.cell? ⟨wo.heap.size, 0, none⟩ = some (.string rh) := fun n => n.cell d0
              have q1 : ∀ n : After w1, n.1.cell? ⟨wo.heap.size, 1, none⟩ = some (.string rp) := fun n => n.cell d1
              have q2 : ∀ n : After w1, n.1.cell? ⟨wo.heap.size, 2, none⟩ = some (.string rt) := fun n => n.cell d2
              have q3 : ∀ n : After w1, n.1.cell? ⟨ab, off + k * 3, none⟩ = some (.string kh) := fun n => n.cell k0
              have q4 : ∀ n : After w1, n.1.cell? ⟨ab, off + k * 3 + 1, none⟩ = some (.string kp) := fun n => n.cell k1
              clear k0 k1
              clear c0 c1 c2 d0 d1 d2
              refine wp_region_after w1 (Below.refl _ _) (by kernel_rfl) (by kernel_rfl) ?_
              repeat (go_big_quiet_step (((go_at_call 18); refine After.call (HF.out _))))
              refine wpQuiet_nil ?_
              rintro w2 ⟨n2, rfl⟩
              obtain ⟨w2, hB2⟩ := n2
              simp only
              clear q0 q1 q2 q3 q4
              have hB3 : Below w.heap.size w w2 := hB.trans (hA.trans_below hB2 hsz)
              clear hB2
              go_wp2
              case roundEnd => exact ⟨⟨i + 1, some k, rfl, by omega, HST.out.trans (by simp), rfl, hB3⟩, (by show l.length - ((i : Int) + 1).toNat < l.length - (i : Int).toNat; omega)⟩
      · obtain rfl : i = l.length := by omega
        rcases b with _ | k
        · have hr : findE l host path = (0, 5) := by rw [HR.out, HBE.out]
          have HRR := Lib.hid hr
          simp only [bestV]
          clear hr
          go_wp2_with fail
          refine bodyPost_ret (results_tmp2 rfl _ _ _) rfl ⟨?_, hB⟩
          rw [HRR.out]; rfl
        · have hr : findE l host path = ((k : Int), 0) := by rw [HR.out, HBE.out]
          have hk : (decide ((k : Int) < 0)) = false := decide_eq_false (by omega)
          have HRR := Lib.hid hr
          simp only [bestV]
          clear hr
          go_wp2_with fail
          refine bodyPost_ret (results_tmp2 rfl _ _ _) rfl ⟨?_, hB⟩
          rw [HRR.out]; rfl
  · have hv : ∃ k : Int, checkE l = k ∧ errV (checkE l) = .iface 46 (.int .i64 k) := ⟨_, rfl, by unfold errV; rw [if_neg hck]⟩
    obtain ⟨k, hk, hv⟩ := hv
    have hr : findE l host path = (0, checkE l) := by unfold findE; rw [if_pos hck]
    rw [hr]
    simp only
    rw [hv] at HCK ⊢
    clear hr hck hv
    go_enter Tryd.func8, Tryd.ntmps8
    go_wp2_with (go_at_call 15; (with_reducible refine HCK.out.mono ?_); rintro e w1 ⟨rfl, hB1⟩)
    exact bodyPost_ret (results_tmp2 rfl _ _ _) rfl ⟨rfl, hB1⟩
end Go.Proofs.YteadmakhcpjpnaaDoor.RouteC
