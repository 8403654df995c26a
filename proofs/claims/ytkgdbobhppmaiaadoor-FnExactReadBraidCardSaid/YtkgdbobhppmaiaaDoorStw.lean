/- Calls under a guard, as single steps of a region that draws. -/
import Derived.Test.YtkgdbobhppmaiaaDoorDel
namespace Go.Proofs.YtkgdbobhppmaiaaDoor
open Go.RowKit

/-- a call with one argument, wanted -/
theorem step_callw {P : Program} {w : World} {ops : Array Oper} {o : Oper} {a : Act} {K : Act → World → Prop} {Q : Exit → Act → World → Prop} {E : Prop} {f : FuncId} {u : Value} {T : TypeId} {R : Ending → World → Prop}
    (hc : Calls P f #[u] w R) (hf : ∀ w, (callFunc f #[u]).run P w = .ok (.enter f #[u]) w) (hw : Region.wanted o (yielded ops a.tmps) = true) (x : Operand)
    (ho : o.op = .call { callee := .value (.func f), args := #[x], argTypes := #[T] }) (hx : a.eval x = u)
    (hK : ∀ e w', R e w' → ∃ v, e = .returned v ∧ K (a.put o.dst v) w') : if Region.wanted o (yielded ops a.tmps) = true then Oper.wp P o a w K Q else E := by
  rw [if_pos hw]
  unfold Oper.wp
  have hr : (execOp a.eval o).run P w = .ok (.enter f #[u]) w := by
    have hx' : Act.eval a x = u := hx
    have h0 : a.eval (.func f) = .func (.func f) #[] #[] := rfl
    simp [execOp, ho, resolve, invoke, hx', h0, Deferred.ofValue, hf]
  rw [hr]
  refine hc.mono ?_
  intro e w' hr
  obtain ⟨v, rfl, hk⟩ := hK e w' hr
  exact hk

/-- a call with two arguments, wanted -/
theorem step_callw2 {P : Program} {w : World} {ops : Array Oper} {o : Oper} {a : Act} {K : Act → World → Prop} {Q : Exit → Act → World → Prop} {E : Prop} {f : FuncId} {u1 u2 : Value} {T1 T2 : TypeId} {R : Ending → World → Prop}
    (hc : Calls P f #[u1, u2] w R) (hf : ∀ w, (callFunc f #[u1, u2]).run P w = .ok (.enter f #[u1, u2]) w) (hw : Region.wanted o (yielded ops a.tmps) = true) (x y : Operand)
    (ho : o.op = .call { callee := .value (.func f), args := #[x, y], argTypes := #[T1, T2] }) (hx : a.eval x = u1) (hy : a.eval y = u2)
    (hK : ∀ e w', R e w' → ∃ v, e = .returned v ∧ K (a.put o.dst v) w') : if Region.wanted o (yielded ops a.tmps) = true then Oper.wp P o a w K Q else E := by
  rw [if_pos hw]
  unfold Oper.wp
  have hr : (execOp a.eval o).run P w = .ok (.enter f #[u1, u2]) w := by
    have hx' : Act.eval a x = u1 := hx
    have hy' : Act.eval a y = u2 := hy
    have h0 : a.eval (.func f) = .func (.func f) #[] #[] := rfl
    simp [execOp, ho, resolve, invoke, hx', hy', h0, Deferred.ofValue, hf]
  rw [hr]
  refine hc.mono ?_
  intro e w' hr
  obtain ⟨v, rfl, hk⟩ := hK e w' hr
  exact hk

end Go.Proofs.YtkgdbobhppmaiaaDoor
