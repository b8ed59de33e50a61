/-
  strings.Lines over this seat's translation: the lines of a text, one behind the other.
  Conditions: the text's length.
-/
import Derived.Test.YteadmakhcpjpnaaDoorRangeCell
import Derived.Test.YteadmakhcpjpnaaDoorLinesP
import Derived.Test.YteadmakhcpjpnaaDoorShelf
import Derived.Shelf.Abstract
import Derived.OwnWalkIn
import Derived.TacticsInMore
import Derived.LoopNIn
import Derived.LoopIn
import Derived.IntWalk
import Derived.BigRegion
import Derived.Lib.Hide
namespace Go.Proofs.YteadmakhcpjpnaaDoor.LinesC
open Go.RowKit Go.Shelf RangeC LinesP
set_option linter.unusedVariables false
set_option linter.unusedSimpArgs false

attribute [local go_sem] Oper.semAt_some

abbrev Ln := { s : ByteArray // s.size < 4294967281 }
def encLn (x : Ln) : Value := .string x.1
def bytesLn (ys : List Ln) : List (List UInt8) := ys.map fun y => y.1.data.toList
theorem lines_any (s : ByteArray) (w : World) : Calls Tryd.prog 11 #[.string s] w fun e w' => e = .returned (.func (.func 22) #[] #[.pointer (some ⟨w.heap.size, 0, none⟩)]) ∧ w' = w.alloc (.cells #[.string s] 9) := by
  go_enter Tryd.func11, Tryd.ntmps11
  go_wp2
  go_ret
  exact ⟨rfl, rfl⟩
def left (sb : Nat) (w : World) : Nat := match w.cell? ⟨sb, 0, none⟩ with
  | some (.string s) => s.size
  | _ => 0
theorem stays_set {α : Type} {sb : Nat} {J : List α → World → Prop} (h : Stays sb J) {s : List α} {W : World} (v : Value) (hs : J s W) : J s (W.setCell ⟨sb, 0, none⟩ v) :=
  h s W _ (some sb) hs (grownBy_setCell' W sb v) fun r e => by cases e; rfl
set_option maxRecDepth 100000 in
set_option maxHeartbeats 2000000 in
theorem lines_seq (text : ByteArray) (ht : text.size < 4294967281) (n : Nat) (hn : 2 ≤ n) (sb : Nat) (w0 : World) (hc : w0.cell? ⟨sb, 0, none⟩ = some (.string text)) (hf : w0.frozen? ⟨sb, 0, none⟩ = false) :
    SeqW Fence.wide n Tryd.prog 22 #[.pointer (some ⟨sb, 0, none⟩)] encLn sb (fun ys => bytesLn ys = linesS text.data.toList) (fun pre => ∃ rest, linesS text.data.toList = bytesLn pre ++ rest) w0 := by
  intro l J Jx W hW hJ hJx hY h0
  have hb0 := block_lt_of_cell hc
  have c0 := (hW.cell (p := ⟨sb, 0, none⟩) hb0).trans hc
  have f0 := (hW.frozen (p := ⟨sb, 0, none⟩) hb0).trans hf
  have HY := Lib.hid hY
  have HJ := Lib.hid hJ
  have HIX := Lib.hid (fun s W => (Tryd.strings_IndexByte s 10 W).mono (R' := fun e w' => e = .returned (.int .i64 (Lib.indexByte s.data.toList ((Int.toNat 10).toUInt8))) ∧ W = w') fun e w' h => ⟨h.1, h.2.symm⟩)
  have hfI : Fence.wide.fn 23 := trivial
  have hn1 : 1 ≤ n := by omega
  clear hc hf hW hb0 hY hJ hJx
  refine callsIn_of_wp Tryd.func22 rfl trivial ?_ rfl
  simp only [Tryd.ntmps22, List.size_toArray, List.length_cons, List.length_nil, Nat.reduceAdd, Nat.reduceSub, Array.replicate_succ, Array.replicate_zero, List.push_toArray, List.append_toArray, List.nil_append, List.cons_append]
  gi_wp2
  gi_loopw [3, 4] (fun _ _ wr => ∃ (ys : List Ln) (r : ByteArray), Hid (linesS text.data.toList = bytesLn ys ++ linesS r.data.toList) ∧ r.size < 4294967281 ∧ wr.cell? ⟨sb, 0, none⟩ = some (.string r) ∧ wr.frozen? ⟨sb, 0, none⟩ = false ∧ Hid (J ys wr)) (fun _ _ wr => left sb wr)
  case atStart => exact ⟨[], text, rfl, ht, c0, f0, h0⟩
  case round =>
    obtain ⟨ys, r, HL, hr, c1, f1, HJS⟩ := hrel
    clear c0 f0
    by_cases hz : r.size = 0
    · have hr0 : r = ⟨#[]⟩ := by
        cases r with
        | mk d => have h : d.size = 0 := hz; rw [Array.eq_empty_of_size_eq_zero h]
      subst hr0
      have HE : Hid (bytesLn ys = linesS text.data.toList) := by have h := HL.out; show _ = _; rw [h]; simp [linesS]
      clear hz
      gi_wp2
      go_end0
      exact ⟨⟨_, rfl⟩, .inl ⟨ys, HE.out, HJS.out⟩⟩
    · have hr1 : 0 < r.size := by omega
      have hr2 : (0 : Int) < (r.size : Int) := by omega
      have hne : r.data.toList ≠ [] := by intro e; have h := congrArg List.length e; simp at h; exact hz (by show r.data.size = 0; rw [h]; rfl)
      have hcut := lines_cut r.data.toList hne
      have hcl := cut_len r.data.toList hne
      have HI2 := Lib.hid (HIX.out r)
      have hrl : r.data.toList.length = r.size := by rw [Array.length_toList]; rfl
      rw [hrl] at hcl
      obtain ⟨i, hi⟩ : ∃ i, Lib.indexByte r.data.toList 10 = i := ⟨_, rfl⟩
      have hiv : Lib.indexByte r.data.toList ((Int.toNat 10).toUInt8) = i := hi
      rw [hiv] at HI2
      by_cases hi0 : 0 ≤ i
      · have HC : Hid (cutS r.data.toList = (r.data.toList.take (i.toNat + 1), r.data.toList.drop (i.toNat + 1))) := by show _ = _; unfold cutS; rw [hi, if_pos hi0]
        have hib := Lib.indexByte_some (o := i.toNat) (by rw [hi]; omega)
        have hilt : i.toNat < r.size := by
          rw [← hrl]
          by_cases h : i.toNat < r.data.toList.length
          · exact h
          · have h2 := hib.1; rw [List.getElem?_eq_none (by omega)] at h2; cases h2
        obtain ⟨k, hk⟩ : ∃ k : Nat, i = (k : Int) := ⟨i.toNat, by omega⟩
        subst hk
        have hkn : ((k : Int)).toNat = k := by omega
        rw [hkn] at HC hilt
        have hk1 : (k : Int) + 1 ≤ (r.size : Int) := by omega
        have hk0 : (0 : Int) ≤ (k : Int) + 1 := by omega
        have hkw : IntKind.i64.wrap ((k : Int) + 1) = (k : Int) + 1 := IntWalk.i64_in _ (by omega)
        have hkt : ((k : Int) + 1).toNat = k + 1 := by omega
        have hx1 : (r.extract 0 (k + 1)).data.toList = r.data.toList.take (k + 1) := by simp
        have hx2 : (r.extract (k + 1) r.size).data.toList = r.data.toList.drop (k + 1) := by
          simp
          rw [← hrl, List.take_of_length_le (by simp)]
        have hs1 : (r.extract 0 (k + 1)).size < 4294967281 := by
          have h := congrArg List.length hx1
          rw [Array.length_toList, List.length_take] at h
          show (r.extract 0 (k + 1)).data.size < _
          omega
        have hs2 : (r.extract (k + 1) r.size).size < r.size := by
          have h := congrArg List.length hx2
          rw [Array.length_toList, List.length_drop] at h
          show (r.extract (k + 1) r.size).data.size < _
          omega
        have HCU := Lib.hid hcut
        have HX1 := Lib.hid (And.intro hx1 hx2)
        have HS1 := Lib.hid (And.intro hs1 hs2)
        clear hcut hcl hne hi hiv hz hib hx1 hx2 hs1 hs2
        have hJd : J ys ((wr.setCell ⟨sb, 0, none⟩ (.string (r.extract (k + 1) r.size))).drew) := HJ.out _ _ _ none (stays_set HJ.out _ HJS.out) ⟨rfl, rfl, rfl, Nat.le_refl _, fun _ _ _ => rfl⟩ (fun r e => by cases e)
        have hyr := HY.out ys ⟨r.extract 0 (k + 1), HS1.out.1⟩ _ hJd
        obtain ⟨fn, tmps, assign, body, hy, hR⟩ := hyr
        have hy2 : (Instr.yield l #[.string (r.extract 0 (k + 1))]).run Tryd.prog ((wr.setCell ⟨sb, 0, none⟩ (.string (r.extract (k + 1) r.size))).drew) = .ok (.round l fn tmps assign body) ((wr.setCell ⟨sb, 0, none⟩ (.string (r.extract (k + 1) r.size))).drew) := hy
        clear hy hJd
        gi_wp2_with (gi_at_call 23; refine (callsIn_wide.2 (HI2.out _)).mono ?_; rintro e w' ⟨rfl, rfl⟩)
        refine (wpIn_wide (n := n)).2 ?_
        go_region
        gi_wp2
        refine hR.mono ?_
        have HY1 : Hid (linesS text.data.toList = bytesLn (ys ++ [(⟨r.extract 0 (k + 1), HS1.out.1⟩ : Ln)]) ++ linesS (r.extract (k + 1) r.size).data.toList) := by
          show _ = _
          rw [HL.out, HCU.out, HC.out]
          simp only [bytesLn, List.map_append, List.map_cons, List.map_nil, HX1.out.1, HX1.out.2, List.append_assoc, List.singleton_append]
        rintro e W3 (⟨rfl, hJ3, hk3⟩ | ⟨rfl, hJx3⟩)
        · have c3 : W3.cell? ⟨sb, 0, none⟩ = some (.string (r.extract (k + 1) r.size)) := (World.cell?_of_block (a := ⟨sb, 0, none⟩) hk3).trans (World.cell?_setCell_same _ _ _ c1)
          have f3 : W3.frozen? ⟨sb, 0, none⟩ = false := (World.frozen?_of_block (a := ⟨sb, 0, none⟩) hk3).trans (by simp; exact f1)
          have hm : left sb W3 < left sb wr := by unfold left; rw [c3, c1]; exact HS1.out.2
          have HJ3 := Lib.hid hJ3
          clear hJ3 hk3
          gi_wp2
          go_roundw
          case rel => exact ⟨_, _, HY1.out, by have := HS1.out.2; omega, c3, f3, HJ3.out⟩
          case measure => exact hm
        · gi_wp2
          refine bodyPost_ret (results_none rfl _ _ _) rfl ?_
          exact ⟨⟨_, rfl⟩, .inr ⟨_, ⟨_, HY1.out⟩, hJx3⟩⟩
      · have HC : Hid (cutS r.data.toList = (r.data.toList, [])) := by show _ = _; unfold cutS; rw [hi, if_neg hi0]
        have HLR : Hid (r.size = r.data.toList.length) := hrl.symm
        have HCU := Lib.hid hcut
        have hi1 : i < 0 := by omega
        clear hcut hcl hne hrl hi hiv hz
        have hyr := HY.out ys ⟨r, hr⟩ (wr.setCell ⟨sb, 0, none⟩ (.string ⟨#[]⟩)) (stays_set HJ.out _ HJS.out)
        obtain ⟨fn, tmps, assign, body, hy, hR⟩ := hyr
        have hy2 : (Instr.yield l #[.string r]).run Tryd.prog (wr.setCell ⟨sb, 0, none⟩ (.string ⟨#[]⟩)) = .ok (.round l fn tmps assign body) (wr.setCell ⟨sb, 0, none⟩ (.string ⟨#[]⟩)) := hy
        clear hy
        gi_wp2_with (gi_at_call 23; refine (callsIn_wide.2 (HI2.out _)).mono ?_; rintro e w' ⟨rfl, rfl⟩)
        refine hR.mono ?_
        have HY1 : Hid (linesS text.data.toList = bytesLn (ys ++ [⟨r, hr⟩]) ++ linesS []) := by
          show _ = _
          rw [HL.out, HCU.out, HC.out]
          simp [bytesLn]
        rintro e W3 (⟨rfl, hJ3, hk3⟩ | ⟨rfl, hJx3⟩)
        · have c3 : W3.cell? ⟨sb, 0, none⟩ = some (.string ⟨#[]⟩) := (World.cell?_of_block (a := ⟨sb, 0, none⟩) hk3).trans (World.cell?_setCell_same _ _ _ c1)
          have f3 : W3.frozen? ⟨sb, 0, none⟩ = false := (World.frozen?_of_block (a := ⟨sb, 0, none⟩) hk3).trans (by simp; exact f1)
          have hm : left sb W3 < left sb wr := by unfold left; rw [c3, c1]; exact hr1
          have HJ3 := Lib.hid hJ3
          clear hJ3 hk3
          gi_wp2
          go_roundw
          case rel => exact ⟨ys ++ [(⟨r, hr⟩ : Ln)], ⟨#[]⟩, HY1.out, by decide, c3, f3, HJ3.out⟩
          case measure => exact hm
        · gi_wp2
          refine bodyPost_ret (results_none rfl _ _ _) rfl ?_
          exact ⟨⟨_, rfl⟩, .inr ⟨_, ⟨_, HY1.out⟩, hJx3⟩⟩
end Go.Proofs.YteadmakhcpjpnaaDoor.LinesC
