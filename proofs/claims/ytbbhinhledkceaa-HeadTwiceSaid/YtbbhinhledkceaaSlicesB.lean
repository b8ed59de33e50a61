/-
  slices.Grow, slices.Concat and slices.Clone of bytes over this seat's translation; 'append(dst, src...)' of bytes, src nil, empty or not.
  Conditions: the lengths' sum.
-/
import Derived.Test.YtbbhinhledkceaaBytesAt
import Derived.WalkSpells
import Derived.WalkLawsBesides
import Derived.Lib.Hide
import Derived.Maps.AppendAt
import Derived.Lib.AppendZerosOnto
import Derived.Lib.AppendZeros
import Derived.Lib.SliceRun
namespace Go.Proofs.Ytbbhinhledkceaa.SlicesB
open Go.RowKit BA
set_option linter.unusedSimpArgs false
set_option linter.unusedVariables false

/-- 'append(b, x...)' on a slice of bytes of the call's own. -/
theorem wpList_append_bytes {w : World} {ops : Array Oper} {rest : List Oper} {o : Oper} {a : Act} {Q : Exit → Act → World → Prop} (hgd : o.guard = none) (s x : Operand)
    (ho : o.op = .call { callee := .builtin .append, args := #[s, x], argTypes := #[40, 40] })
    (base : Nat) (v : Value) (l : List Int) (hs : a.eval s = v) (hown : BytesL.Own w base v l) (vx : Value) (y : List Int) (hx : a.eval x = vx) (hy : BytesAt w vx y)
    (hlen : l.length + y.length < 140737488355328) (hbase : base ≤ w.heap.size)
    (h : ∀ v' w', BytesL.Own w' base v' (l ++ y) → Below base w w' → w.grownBy w' v.ownBlock → (v'.ownBlock = v.ownBlock ∨ v'.ownBlock = some w.heap.size) → wpList Try.prog ops Q rest (a.put o.dst v') w') : wpList Try.prog ops Q (o :: rest) a w := by
  obtain ⟨i0, hi, hz0, hz1, hz2⟩ := info_parts BytesL.infoB
  obtain ⟨ax, cx, rfl, hc1, hc2, hnil, _⟩ := hy.open
  have key : ∃ v' w', (Builtin.append_ #[40, 40] o.type #[v, .slice ax y.length cx]).run Try.prog w = .ok v' w' ∧ BytesL.Own w' base v' (l ++ y) ∧ w.grownBy w' v.ownBlock ∧ (v'.ownBlock = v.ownBlock ∨ v'.ownBlock = some w.heap.size) := by
    cases ax with
    | none =>
      obtain rfl := hnil rfl
      have h0 : y = [] := List.eq_nil_of_length_eq_zero (by omega)
      subst h0
      refine ⟨v, w, run_append_owned_none (P := Try.prog) w base 40 o.type 5 i0 1 Try.underlying40 hi v l.length (BytesL.valB l) hown, by simpa using hown, World.grownBy.refl w _, .inl rfl⟩
    | some ad =>
      obtain ⟨_, hcells⟩ := bytesAt_add hy
      obtain ⟨v', w', hr, h2, h3, _, h5⟩ := run_append_own_at (P := Try.prog) w base 40 o.type 5 i0 (.int .u8 0) 1 1 Try.underlying40 hi hz0 hz1 hz2 rfl (by decide) v l.length (BytesL.valB l) hown ad y.length cx (BytesL.valB y) (by simp) hcells
        (by intro u hu; obtain ⟨z, _, rfl⟩ := List.mem_map.1 hu; rfl) (by simp only [maxLen]; omega) (by omega) hbase
      exact ⟨v', w', hr, by simpa [BytesL.Own, BytesL.valB] using h2, h3, h5⟩
  obtain ⟨v', w', hr, h2, h3, h4⟩ := key
  refine wpList_plain hgd fun K hK => ?_
  unfold Oper.wp execOp
  simp only [ho, resolve, invoke, builtin, Sem.run_bind, Sem.run_pure, Result.andThen_ok, List.map_toArray, List.map_cons, List.map_nil, hs, hx, hr]
  exact hK _ _ (h v' w' h2 ((Below.refl _ _).grown h3 hbase (fun k hk => (hown.lt k hk).1)) h3 h4)

end Go.Proofs.Ytbbhinhledkceaa.SlicesB
