/- The library's Delete of one element, at a slice of int64 of the call's own. -/
import Derived.Test.YtkgdbobhppmaiaaDoorSli
import Derived.Test.YtkgdbobhppmaiaaDoorSwp
import Derived.Deep.RegionLaw
namespace Go.Proofs.YtkgdbobhppmaiaaDoor
open Go.RowKit

/-- append where there is room: the value is known, and what may stand behind it stays its own room -/
theorem app_room {P : Program} {w : World} {T ty e : TypeId} {z : Value} {b : Nat} (hT : P.underlying T = some (.slice e)) (hi : (P.info? e).map (fun i => (i.zero, i.size, i.bytes)) = some (some z, 1, b))
    {B : Nat} {u : Value} {a : Option Addr} {n c : Nat} {xs ys : List Value} (hv : Own w B e (.slice a n c) xs) (hn : 0 < c) (hu : Reads w u ys) (h1 : ∀ y ∈ ys, y.oneCell' = true) (hr : xs.length + ys.length ≤ c) :
    ∃ w', (Builtin.append_ #[T, T] ty #[.slice a n c, u]).run P w = .ok (.slice a (xs.length + ys.length) c) w' ∧ Own w' B e (.slice a (xs.length + ys.length) c) (xs ++ ys) ∧ w.grownBy w' (blk (.slice a n c)) := by
  obtain ⟨i, hii, hz', hi1, hi8⟩ := info_parts hi
  have hf := reads_cells hu (P := P)
  obtain ⟨a', c', rfl, ha⟩ := hu.form
  rcases hv with ⟨e0, rfl⟩ | ⟨g, o, cap, cur, ev, hBg, hg, hnc, hm, hs, ht⟩
  · injection e0 with _ _ e3; omega
  · injection ev with e1 e2 e3
    subst e1 e2 e3
    have hst := run_storeCells_at P g (o + xs.length) e ys 0 cur w hg (by omega) h1
    simp only [Nat.add_zero] at hst
    refine ⟨_, ?_, own_setRow hBg hg hr hm hs ht, grown_setRow w g _⟩
    simp [Builtin.append_, run_underlying hT, sizeOf, typeInfo, hii, hi1, Builtin.lenOf, hr, hf, add_lit, hst]

/-- a call of a Go function with one argument, as one step of a region that draws -/
theorem step_call {P : Program} {w : World} {ops : Array Oper} {o : Oper} {a : Act} {K : Act → World → Prop} {Q : Exit → Act → World → Prop} {E : Prop} {f : FuncId} {u : Value} {T : TypeId} {R : Ending → World → Prop}
    (hc : Calls P f #[u] w R) (hf : ∀ w, (callFunc f #[u]).run P w = .ok (.enter f #[u]) w) (hg : o.guard = none) (x : Operand)
    (ho : o.op = .call { callee := .value (.func f), args := #[x], argTypes := #[T] }) (hx : a.eval x = u)
    (hK : ∀ e w', R e w' → ∃ v, e = .returned v ∧ K (a.put o.dst v) w') : if Region.wanted o (yielded ops a.tmps) = true then Oper.wp P o a w K Q else E := by
  have hw : Region.wanted o (yielded ops a.tmps) = true := by simp [Region.wanted, hg]
  rw [if_pos hw]
  unfold Oper.wp
  have hr : (execOp a.eval o).run P w = .ok (.enter f #[u]) w := by
    have hx' : Act.eval a x = u := hx
    have h0 : a.eval (.func f) = .func (.func f) #[] #[] := rfl
    simp [execOp, ho, resolve, invoke, hx', h0, Deferred.ofValue, hf]
  rw [hr]
  refine hc.mono ?_
  intro e w' hr
  obtain ⟨v, rfl, hk⟩ := hK e w' hr
  exact hk

theorem step_app {P : Program} {w w' : World} {ops : Array Oper} {o : Oper} {a : Act} {K : Act → World → Prop} {Q : Exit → Act → World → Prop} {E : Prop} {v v' u : Value} {T : TypeId}
    (hr : (Builtin.append_ #[T, T] o.type #[v, u]).run P w = .ok v' w') (hg : o.guard = none) (s x : Operand)
    (ho : o.op = .call { callee := .builtin .append, args := #[s, x], argTypes := #[T, T] }) (hs : a.eval s = v) (hx : a.eval x = u)
    (hK : K (a.put o.dst v') w') : if Region.wanted o (yielded ops a.tmps) = true then Oper.wp P o a w K Q else E := by
  have hw : Region.wanted o (yielded ops a.tmps) = true := by simp [Region.wanted, hg]
  rw [if_pos hw]
  unfold Oper.wp
  simp [execOp, ho, resolve, invoke, builtin, hs, hx, hr, Result.andThen]
  exact hK

/-- s[n:n+1], n the length, in the room behind -/
def spareV (a : Option Addr) (n c : Nat) : Value := .slice (if c = n then a else a.map (·.add n)) 1 (c - n)
theorem spare_run {P : Program} {T e : TypeId} (hT : P.underlying T = some (.slice e)) (hs : (sizeOf e).run P = fun w => .ok 1 w) (a : Option Addr) (n c : Nat) (hc : n + 1 ≤ c) (w' : World) :
    (Instr.slice T (.slice a n c) (some (.int .i64 (n : Nat))) (some (.int .i64 ((n : Int) + 1))) none).run P w' = .ok (spareV a n c) w' := by
  have he : P.elem T = e := by simp [Program.elem, hT]
  rw [run_slice_lh w' T a n c (by rw [he]; exact hT) .i64 .i64 n ((n : Int) + 1) (by omega) (by omega) (by omega), he, hs]
  simp only [Result.andThen, sliced, spareV, Int.toNat_natCast, Nat.mul_one]
  rw [show ((n : Int) + 1).toNat - n = 1 by omega]

/-- 'clear' of one place behind the elements -/
theorem clear_spare {P : Program} {w : World} {T ty e : TypeId} {z : Value} {b : Nat} (hT : P.underlying T = some (.slice e)) (hi : (P.info? e).map (fun i => (i.zero, i.size, i.bytes)) = some (some z, 1, b)) (hz : z.cells = #[z]) (hz1 : z.oneCell' = true)
    {B : Nat} {a : Option Addr} {n c : Nat} {xs : List Value} (hv : Own w B e (.slice a n c) xs) (hn : xs.length + 1 ≤ c) :
    ∃ w', (Builtin.clear_ #[T] ty #[spareV a xs.length c]).run P w = .ok (.tuple #[]) w' ∧ Own w' B e (.slice a n c) xs ∧ w.grownBy w' (blk (.slice a n c)) := by
  obtain ⟨i, hii, hz', hi1, hi8⟩ := info_parts hi
  rcases hv with ⟨e0, rfl⟩ | ⟨g, o, cap, cur, ev, hBg, hg, hnc, hm, hs, ht⟩
  · injection e0 with _ _ e3; simp at hn; omega
  · injection ev with e1 e2 e3
    subst e1 e2 e3
    have hst := run_storeCells_at P g (o + xs.length) e [z] 0 cur w hg (by simp; omega) (by simpa using hz1)
    simp only [Nat.add_zero] at hst
    refine ⟨w.setRow g (cur.toList.take (o + xs.length) ++ [z] ++ cur.toList.drop (o + xs.length + [z].length)).toArray, ?_, ?_, grown_setRow w g _⟩
    · have hne : ¬ c = xs.length := by omega
      simp [Builtin.clear_, run_underlying hT, spareV, hne, zeroValue, typeInfo, hii, hz', hz, add_lit, Builtin.zeroCells, hst]
    · refine .inr ⟨g, o, c, _, rfl, hBg, setRow_heap w g cur _ e _ hg, hnc, hm, ?_, ?_⟩
      · simp only [List.size_toArray, List.length_append, List.length_take, List.length_drop, Array.length_toList, List.length_singleton]; omega
      · apply List.ext_getElem?
        intro j
        have hlt : (cur.toList.take (o + xs.length)).length = o + xs.length := by simp; omega
        rw [List.getElem?_take]
        by_cases hj : j < xs.length
        · rw [if_pos hj, List.getElem?_drop, List.append_assoc, List.getElem?_append_left (by omega), List.getElem?_take, if_pos (by omega)]
          have := congrArg (fun l : List Value => l[j]?) ht
          simp only [List.getElem?_take, if_pos hj, List.getElem?_drop] at this
          exact this
        · rw [if_neg hj, List.getElem?_eq_none (by omega)]

theorem full_run {w : World} {v : Value} {xs : List Value} (h : Reads w v xs) {P : Program} {T e : TypeId} (hT : P.underlying T = some (.slice e)) (hs : (sizeOf e).run P = fun w => .ok 1 w)
    (i j : Int) (h0 : 0 ≤ i) (hij : i ≤ j) (hj : j ≤ (xs.length : Nat)) : ∃ u, ∀ w', (Instr.slice T v (some (.int .i64 i)) (some (.int .i64 j)) (some (.int .i64 (xs.length : Nat)))).run P w' = .ok u w' := by
  obtain ⟨a, c, rfl, ha⟩ := h.form
  have hc := h.cap _ _ _ rfl
  have he : P.elem T = e := by simp [Program.elem, hT]
  refine ⟨sliced a i.toNat j.toNat xs.length 1, fun w' => ?_⟩
  rw [run_slice_lhm w' T a xs.length c (by rw [he]; exact hT) .i64 .i64 .i64 i j (xs.length : Nat) h0 hij hj (by omega), he, hs]
  simp [Result.andThen]

theorem take_drop_len {l : List Int} {d : Nat} (hd : d < l.length) : (ints (l.take d)).length + (ints (l.drop (d + 1))).length = l.length - 1 := by simp; omega

end Go.Proofs.YtkgdbobhppmaiaaDoor
