/-
  Frames as bytes, and back, in plain Lean.
  Conditions: none.
-/
import Derived.Test.YtegngpingfjedaaGreatDoorFrame
import Derived.Test.YtegngpingfjedaaGreatDoorFramesArg
namespace Go.Proofs.YtegngpingfjedaaGreatDoor.FrameP
open Go.RowKit BA WireBig SlicesB FrameC Args
set_option linter.unusedVariables false
set_option linter.unusedSimpArgs false

def good (f : Fr) : Prop := f.inRange ∧ f.body.length ≤ 1024
def allB (l : List Fr) : List Int := (l.map Fr.bytes).flatten
theorem bytes_len (f : Fr) : f.bytes.length = f.body.length + 9 := by
  simp only [Fr.bytes, List.length_append, bigL_len _ 3 (by omega), bigL_len _ 4 (by omega), List.length_cons, List.length_nil]
  simp only [show (3 : Int).toNat = 3 from rfl, show (4 : Int).toNat = 4 from rfl]; omega
theorem allB_snoc (l : List Fr) (k : Nat) (h : k < l.length) : allB (l.take (k + 1)) = allB (l.take k) ++ l[k].bytes := by
  rw [List.take_succ_eq_append_getElem h]; simp only [allB, List.map_append, List.map_cons, List.map_nil, List.flatten_append, List.flatten_cons, List.flatten_nil, List.append_nil]
theorem allB_cons (l : List Fr) (k : Nat) (h : k < l.length) : allB (l.drop k) = l[k].bytes ++ allB (l.drop (k + 1)) := by
  rw [List.drop_eq_getElem_cons h]; rfl
theorem allB_len (l : List Fr) (h : ∀ f ∈ l, good f) : (allB l).length ≤ 1033 * l.length := by
  induction l with
  | nil => simp [allB]
  | cons f l ih =>
    have e : allB (f :: l) = f.bytes ++ allB l := rfl
    have := (h f (by simp)).2
    have := ih (fun g hg => h g (by simp [hg]))
    rw [e, List.length_append, bytes_len, List.length_cons]; omega
theorem good_bytes (f : Fr) (h : good f) (hb : ByteL f.body) : ByteL f.bytes := by
  obtain ⟨⟨h1, h2, h3⟩, h4⟩ := h
  intro z hz
  simp only [Fr.bytes, List.mem_append] at hz
  rcases hz with hz | hz | hz | hz
  · exact bigL_bd _ 3 (by omega) (by omega) (by simp [most]; omega) z hz
  · simp only [List.mem_cons, List.not_mem_nil, or_false] at hz
    rcases hz with rfl | rfl
    · exact h1
    · exact h2
  · exact bigL_bd _ 4 (by omega) h3.1 (by simp [most]; exact h3.2) z hz
  · exact hb z hz
theorem allB_bytes (l : List Fr) (h : ∀ f ∈ l, good f) (hb : ∀ f ∈ l, ByteL f.body) : ByteL (allB l) := by
  induction l with
  | nil => intro z hz; simp [allB] at hz
  | cons f l ih =>
    have e : allB (f :: l) = f.bytes ++ allB l := rfl
    intro z hz
    rw [e, List.mem_append] at hz
    rcases hz with hz | hz
    · exact good_bytes f (h f (by simp)) (hb f (by simp)) z hz
    · exact ih (fun g hg => h g (by simp [hg])) (fun g hg => hb g (by simp [hg])) z hz
theorem num3 (n : Int) (r : List Int) : numL ((bigL n 3 ++ r).take 3) = n / 65536 * 65536 + n / 256 % 256 * 256 + n % 256 := by
  simp [bigL, numL]; omega
theorem num4 (n : Int) : numL ((bigL n 4)) = n / 16777216 * 16777216 + n / 65536 % 256 * 65536 + n / 256 % 256 * 256 + n % 256 := by
  simp [bigL, numL]; omega
/-- What is read of a frame that was written, whatever stands behind it. -/
theorem read_back (f : Fr) (h : good f) (r : List Int) : rdErr (f.bytes ++ r) = 0 ∧ rdFr (f.bytes ++ r) = f ∧ numL ((f.bytes ++ r).take 3) = f.body.length := by
  obtain ⟨⟨h1, h2, h3⟩, h4⟩ := h
  obtain ⟨k, fl, st, body⟩ := f
  simp only at h1 h2 h3 h4
  have e3 : numL (((Fr.mk k fl st body).bytes ++ r).take 3) = body.length := by
    simp only [Fr.bytes, List.append_assoc]
    rw [num3]; omega
  have hb3 : bigL (body.length : Int) 3 = [(body.length : Int) / 65536, (body.length : Int) / 256 % 256, (body.length : Int) % 256] := rfl
  have hb4 : bigL st 4 = [st / 16777216, st / 65536 % 256, st / 256 % 256, st % 256] := rfl
  have e4 : numL ((((Fr.mk k fl st body).bytes ++ r).drop 5).take 4) = st := by
    have : ((((Fr.mk k fl st body).bytes ++ r).drop 5).take 4) = bigL st 4 := by
      simp only [Fr.bytes, hb3, hb4, List.cons_append, List.nil_append, List.drop_succ_cons, List.drop_zero, List.take_succ_cons, List.take_zero]
    rw [this, num4]; omega
  have hlen : ((Fr.mk k fl st body).bytes ++ r).length = body.length + 9 + r.length := by rw [List.length_append, bytes_len]
  refine ⟨?_, ?_, e3⟩
  · unfold rdErr
    rw [e3, e4, hlen, if_neg (by omega), if_neg (by omega), if_neg (by omega), if_neg (by omega)]
  · unfold rdFr
    rw [e3, e4, Int.toNat_natCast]
    have g3 : ((Fr.mk k fl st body).bytes ++ r).getD 3 0 = k := by simp [Fr.bytes, hb3]
    have g4 : ((Fr.mk k fl st body).bytes ++ r).getD 4 0 = fl := by simp [Fr.bytes, hb3]
    have g9 : (((Fr.mk k fl st body).bytes ++ r).drop 9).take body.length = body := by
      have : ((Fr.mk k fl st body).bytes ++ r).drop 9 = body ++ r := by
        simp only [Fr.bytes, hb3, hb4, List.cons_append, List.nil_append, List.drop_succ_cons, List.drop_zero]
      rw [this, List.take_left]
    rw [g3, g4, g9]

end Go.Proofs.YtegngpingfjedaaGreatDoor.FrameP
