/-
  slices.Grow, slices.Concat and slices.Clone of bytes over this seat's translation; 'append(dst, src...)' of bytes, src nil, empty or not.
  Conditions: the lengths' sum.
-/
import Derived.Test.YtooplackonnemaaDoorBytesAt
import Derived.WalkSpells
import Derived.WalkLawsBesides
import Derived.Lib.Hide
import Derived.Maps.AppendAt
import Derived.Lib.AppendZerosOnto
import Derived.Lib.AppendZeros
import Derived.Lib.SliceRun
namespace Go.Proofs.YtooplackonnemaaDoor.SlicesB
open Go.RowKit BA
set_option linter.unusedSimpArgs false
set_option linter.unusedVariables false

/-- 'append(b, x...)' on a slice of bytes of the call's own. -/
theorem wpList_append_bytes {w : World} {ops : Array Oper} {rest : List Oper} {o : Oper} {a : Act} {Q : Exit → Act → World → Prop} (hgd : o.guard = none) (s x : Operand)
    (ho : o.op = .call { callee := .builtin .append, args := #[s, x], argTypes := #[23, 23] })
    (base : Nat) (v : Value) (l : List Int) (hs : a.eval s = v) (hown : BytesL.Own w base v l) (vx : Value) (y : List Int) (hx : a.eval x = vx) (hy : BytesAt w vx y)
    (hlen : l.length + y.length < 140737488355328) (hbase : base ≤ w.heap.size)
    (h : ∀ v' w', BytesL.Own w' base v' (l ++ y) → Below base w w' → w.grownBy w' v.ownBlock → (v'.ownBlock = v.ownBlock ∨ v'.ownBlock = some w.heap.size) → wpList Tryd.prog ops Q rest (a.put o.dst v') w') : wpList Tryd.prog ops Q (o :: rest) a w := by
  obtain ⟨i0, hi, hz0, hz1, hz2⟩ := info_parts BytesL.infoB
  obtain ⟨ax, cx, rfl, hc1, hc2, hnil, _⟩ := hy.open
  have key : ∃ v' w', (Builtin.append_ #[23, 23] o.type #[v, .slice ax y.length cx]).run Tryd.prog w = .ok v' w' ∧ BytesL.Own w' base v' (l ++ y) ∧ w.grownBy w' v.ownBlock ∧ (v'.ownBlock = v.ownBlock ∨ v'.ownBlock = some w.heap.size) := by
    cases ax with
    | none =>
      obtain rfl := hnil rfl
      have h0 : y = [] := List.eq_nil_of_length_eq_zero (by omega)
      subst h0
      refine ⟨v, w, run_append_owned_none (P := Tryd.prog) w base 23 o.type 5 i0 1 Tryd.underlying23 hi v l.length (BytesL.valB l) hown, by simpa using hown, World.grownBy.refl w _, .inl rfl⟩
    | some ad =>
      obtain ⟨_, hcells⟩ := bytesAt_add hy
      obtain ⟨v', w', hr, h2, h3, _, h5⟩ := run_append_own_at (P := Tryd.prog) w base 23 o.type 5 i0 (.int .u8 0) 1 1 Tryd.underlying23 hi hz0 hz1 hz2 rfl (by decide) v l.length (BytesL.valB l) hown ad y.length cx (BytesL.valB y) (by simp) hcells
        (by intro u hu; obtain ⟨z, _, rfl⟩ := List.mem_map.1 hu; rfl) (by simp only [maxLen]; omega) (by omega) hbase
      exact ⟨v', w', hr, by simpa [BytesL.Own, BytesL.valB] using h2, h3, h5⟩
  obtain ⟨v', w', hr, h2, h3, h4⟩ := key
  refine wpList_plain hgd fun K hK => ?_
  unfold Oper.wp execOp
  simp only [ho, resolve, invoke, builtin, Sem.run_bind, Sem.run_pure, Result.andThen_ok, List.map_toArray, List.map_cons, List.map_nil, hs, hx, hr]
  exact hK _ _ (h v' w' h2 ((Below.refl _ _).grown h3 hbase (fun k hk => (hown.lt k hk).1)) h3 h4)

theorem clone_any (v : Value) (l : List Int) (w : World) (h : BytesAt w v l) (hl : l.length ≤ 140737488355327) :
    Calls Tryd.prog 13 #[v] w fun e w' => ∃ v', e = .returned v' ∧ BytesL.Own w' w.heap.size v' l ∧ Below w.heap.size w w' := by
  obtain ⟨a, cap, rfl, hc1, hc2, hnil, _⟩ := h.open
  have H := Lib.hid h
  clear h
  have hq := fun (w : World) (a : Option Addr) (n c : Nat) => Lib.run_eql_slice_nil (P := Tryd.prog) w 23 5 a n c 0 0 Tryd.underlying23
  cases a with
  | none =>
    obtain rfl := hnil rfl
    have h0 : l = [] := List.eq_nil_of_length_eq_zero (by omega)
    subst h0
    clear hnil
    go_enter Tryd.func13, Tryd.ntmps13
    go_wp2
    go_ret
    exact ⟨_, rfl, BytesL.Own.nil _ _, Below.refl _ _⟩
  | some x =>
    clear hnil
    have HL := Lib.hid hl
    generalize hn : l.length = n at *
    have HN := Lib.hid hn
    clear hn
    go_enter Tryd.func13, Tryd.ntmps13
    go_wp2_with (at_builtin; refine wpList_append_bytes rfl _ _ rfl w.heap.size _ [] rfl (World.ownsRow_lit w #[] 0 (Nat.le_refl _) (by decide) rfl) _ l rfl (H.out.below ((Below.refl _ _).alloc (Nat.le_refl _) _)) (by rw [HN.out]; simp; omega) (by simp) ?_; intro v2 w2 hown2 hB2 hg2 hat2; clear hg2 hat2)
    go_ret
    exact ⟨_, rfl, by simpa using hown2, ((Below.refl _ _).alloc (Nat.le_refl _) _).trans hB2⟩
end Go.Proofs.YtooplackonnemaaDoor.SlicesB
