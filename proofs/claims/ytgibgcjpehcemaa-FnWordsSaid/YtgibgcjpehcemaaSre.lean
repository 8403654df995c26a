/- Contracts: drawn braids. -/
import Derived.Test.YtgibgcjpehcemaaSrc
import Derived.Test.YtgibgcjpehcemaaDel
namespace Go.Proofs.Ytgibgcjpehcemaa
open Go.RowKit
open Pm

/-- a call of a Go function with three arguments, as one step of a region that draws -/
theorem step_call3 {P : Program} {w : World} {ops : Array Oper} {o : Oper} {a : Act} {K : Act → World → Prop} {Q : Exit → Act → World → Prop} {E : Prop} {f : FuncId} {u1 u2 u3 : Value} {T1 T2 T3 : TypeId} {R : Ending → World → Prop}
    (hc : Calls P f #[u1, u2, u3] w R) (hf : ∀ w, (callFunc f #[u1, u2, u3]).run P w = .ok (.enter f #[u1, u2, u3]) w) (hg : o.guard = none) (x y z : Operand)
    (ho : o.op = .call { callee := .value (.func f), args := #[x, y, z], argTypes := #[T1, T2, T3] }) (hx : a.eval x = u1) (hy : a.eval y = u2) (hz : a.eval z = u3)
    (hK : ∀ e w', R e w' → ∃ v, e = .returned v ∧ K (a.put o.dst v) w') : if Region.wanted o (yielded ops a.tmps) = true then Oper.wp P o a w K Q else E := by
  have hw : Region.wanted o (yielded ops a.tmps) = true := by simp [Region.wanted, hg]
  rw [if_pos hw]
  unfold Oper.wp
  have hr : (execOp a.eval o).run P w = .ok (.enter f #[u1, u2, u3]) w := by
    have hx' : Act.eval a x = u1 := hx
    have hy' : Act.eval a y = u2 := hy
    have hz' : Act.eval a z = u3 := hz
    have h0 : a.eval (.func f) = .func (.func f) #[] #[] := rfl
    simp [execOp, ho, resolve, invoke, hx', hy', hz', h0, Deferred.ofValue, hf]
  rw [hr]
  refine hc.mono ?_
  intro e w' hr
  obtain ⟨v, rfl, hk⟩ := hK e w' hr
  exact hk

theorem heap_oth {w : World} {b c i : Nat} {x : Value} (h : c ≠ b) : (w.setCell ⟨c, i, none⟩ x).heap[b]? = w.heap[b]? := Below.heap_setCell _ _ _ _ (fun e => h e.symm)
end Go.Proofs.Ytgibgcjpehcemaa
