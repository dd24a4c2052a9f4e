/- A region that does not draw its order, step by step by laws of its own: cheap where many operations are guarded and the frame is large. -/
import Derived.Test.YtmkbojhnbkdalaaRegionM
set_option linter.unusedSimpArgs false
set_option linter.unusedVariables false
namespace Go.Proofs.Ytmkbojhnbkdalaa
open Go.RowKit

section
variable {P : Program} {ops : Array Oper} {Q : Exit → Act → World → Prop} {rest : List Oper} {a : Act} {w : World} {o : Oper}
/-- Under a name of its own: else Lean reckons the whole rest of a region wherever it looks at the goal's form. -/
structure LW (P : Program) (ops : Array Oper) (Q : Exit → Act → World → Prop) (rest : List Oper) (a : Act) (w : World) : Prop where
  out : wpList P ops Q rest a w
theorem wp_region_L {id : Nat} (h : LW P ops Q ops.toList a w) : (Code.region id ops false).wp P Q a w := wp_region_list h.out
theorem L_nil (h : Q .normal a w) : LW P ops Q [] a w := ⟨h⟩
theorem L_back (h : wpList P ops Q rest a w) : LW P ops Q rest a w := ⟨h⟩
theorem L_pure (hw : Region.wanted o (yielded ops a.tmps) = true) (h : ∃ v, (execOp a.eval o).run P w = .ok (.value v) w ∧ LW P ops Q rest (a.put o.dst v) w) : LW P ops Q (o :: rest) a w := by
  obtain ⟨v, h1, h2⟩ := h
  refine ⟨wpList_step fun K hK => ?_⟩
  rw [if_pos hw]
  unfold Oper.wp
  rw [h1]
  exact hK _ _ h2.out
theorem L_off (hw : Region.wanted o (yielded ops a.tmps) = false) (h : LW P ops Q rest (a.put o.dst undef) w) : LW P ops Q (o :: rest) a w := by
  refine ⟨wpList_step fun K hK => ?_⟩
  rw [if_neg (by rw [hw]; exact Bool.false_ne_true)]
  exact hK _ _ h.out
theorem L_do (hw : Region.wanted o (yielded ops a.tmps) = true) (h : ∃ v w', (execOp a.eval o).run P w = .ok (.value v) w' ∧ LW P ops Q rest (a.put o.dst v) w') : LW P ops Q (o :: rest) a w := by
  obtain ⟨v, w', h1, h2⟩ := h
  refine ⟨wpList_step fun K hK => ?_⟩
  rw [if_pos hw]
  unfold Oper.wp
  rw [h1]
  exact hK _ _ h2.out
theorem L_skip (hw : Region.wanted o (yielded ops a.tmps) = true) (h : ∃ w', (execOp a.eval o).run P w = .ok .skip w' ∧ LW P ops Q rest (a.put o.dst undef) w') : LW P ops Q (o :: rest) a w := by
  obtain ⟨w', h1, h2⟩ := h
  refine ⟨wpList_step fun K hK => ?_⟩
  rw [if_pos hw]
  unfold Oper.wp
  rw [h1]
  exact hK _ _ h2.out
theorem L_call (hw : Region.wanted o (yielded ops a.tmps) = true) (h : ∃ f args, (execOp a.eval o).run P w = .ok (.enter f args) w ∧ Calls P f args w (fun e w' => ∃ v, e = .returned v ∧ LW P ops Q rest (a.put o.dst v) w')) : LW P ops Q (o :: rest) a w := by
  obtain ⟨f, args, h1, h2⟩ := h
  refine ⟨wpList_step fun K hK => ?_⟩
  rw [if_pos hw]
  unfold Oper.wp
  rw [h1]
  refine Calls.mono h2 fun e w'' ⟨v, he, hr⟩ => ?_
  subst he
  exact hK _ _ hr.out
theorem L_append2 (hw : Region.wanted o (yielded ops a.tmps) = true) (s x : Operand) (t : TypeId) (ho : o.op = .call { callee := .builtin .append, args := #[s, x], argTypes := #[t, t] })
    (v v2 v' : Value) (w' : World) (hs : a.eval s = v) (hx : a.eval x = v2) (hr : (Builtin.append_ #[t, t] o.type #[v, v2]).run P w = .ok v' w') (h : LW P ops Q rest (a.put o.dst v') w') : LW P ops Q (o :: rest) a w := by
  refine L_do hw ⟨v', w', ?_, h⟩
  unfold execOp
  simp only [ho, resolve, invoke, builtin, Sem.run_bind, Sem.run_pure, Result.andThen_ok, List.map_toArray, List.map_cons, List.map_nil, hs, hx, hr]
end

end Go.Proofs.Ytmkbojhnbkdalaa
