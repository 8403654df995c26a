/- Contracts: slices joined to one, copies. -/
import Derived.Test.YtmeccemnmkobbaaNob
import Derived.Test.YtmeccemnmkobbaaSli
import Derived.Lib.AppendZerosOnto
namespace Go.Proofs.Ytmeccemnmkobbaa
open Go.RowKit

set_option maxRecDepth 100000 in
set_option maxHeartbeats 1000000 in
theorem own_run (v : Value) (l : List Int) (w : World) (h : Reads w v (ints l)) (hl : l.length ≤ 1048576) :
    Calls Try.prog 73 #[v] w fun e w' => ∃ u, e = .returned u ∧ Own w' w.heap.size 2 u (ints l) ∧ Below w.heap.size w w' := by
  have h1 := reads_alloc h (.cells #[] 2)
  have ho : Own (w.alloc (.cells #[] 2)) w.heap.size 2 (.slice (some ⟨w.heap.size, 0, none⟩) 0 0) [] := own_empty w _ (Nat.le_refl _)
  have hb : Below w.heap.size w (w.alloc (.cells #[] 2)) := (Below.refl _ _).alloc (Nat.le_refl _) _
  obtain ⟨v', w', hrun, hown', hg⟩ := app_run (ty := 32) sliceI infoI rfl ho h1 (oneCell_ints l) (by simp) (by simp; omega) (by decide)
  have hb2 := hb.grown hg (by simp) (fun k hk => (ho.blk_lt hk).1)
  clear h1 ho hb hg
  go_enter Try.func73, Try.ntmps73
  go_wp2_with (at_builtin; refine wpList_app hrun rfl _ _ rfl rfl rfl ?_)
  go_ret
  exact ⟨_, rfl, by simpa using hown', hb2⟩

/-- append with operands of two types: gc's append of a make -/
theorem wpList_app2 {P : Program} {w w' : World} {ops : Array Oper} {rest : List Oper} {o : Oper} {a : Act} {Q : Exit → Act → World → Prop} {v v' u : Value} {T T2 : TypeId}
    (hr : (Builtin.append_ #[T, T2] o.type #[v, u]).run P w = .ok v' w') (hg : o.guard = none) (s x : Operand)
    (ho : o.op = .call { callee := .builtin .append, args := #[s, x], argTypes := #[T, T2] }) (hs : a.eval s = v) (hx : a.eval x = u)
    (hK : wpList P ops Q rest (a.put o.dst v') w') : wpList P ops Q (o :: rest) a w := by
  refine wpList_plain hg fun K hK' => ?_
  unfold Oper.wp
  simp [execOp, ho, resolve, invoke, builtin, hs, hx, hr, Result.andThen]
  exact hK' _ _ hK

theorem flat_take {ls : List (List Int)} {k : Nat} (h : k < ls.length) : (ls.take (k + 1)).flatten = (ls.take k).flatten ++ rat ls k := by
  rw [take_rat h]; simp
theorem length_flat (ls : List (List Int)) : (ls.flatten.length : Int) = tot ls := by
  induction ls with
  | nil => rfl
  | cons l ls ih => rw [List.flatten_cons, List.length_append, tot_cons]; omega

end Go.Proofs.Ytmeccemnmkobbaa
