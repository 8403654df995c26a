/- The built-in append on a slice of the call's own, at elements of one cell, whatever the offset in its block; slices of slices. Plain laws of memory. -/
import Derived.Test.YtkgdbobhppmaiaaDoorCore
namespace Go.Proofs.YtkgdbobhppmaiaaDoor
open Go.RowKit

theorem reads_cells {w : World} {v : Value} {xs : List Value} (h : Reads w v xs) {P : Program} : (Builtin.firstCells 1 xs.length v).run P w = .ok xs.toArray w := by
  obtain ⟨a, c, rfl, ha⟩ := h.form
  cases a with
  | none =>
    have : xs = [] := by
      cases xs with
      | nil => rfl
      | cons x r => exact absurd rfl (ha (by simp))
    subst this
    simp [Builtin.firstCells]
  | some a => exact run_firstCells_some w 1 xs.length a xs.length c xs (by simp) (fun j x hx => h.cell j x hx)

theorem own_setRow {w : World} {g o cap : Nat} {cur : Array Value} {e : TypeId} {xs ys : List Value} {B : Nat} (hB : B ≤ g) (hg : w.heap[g]? = some (.cells cur e (0, 0))) (hr : xs.length + ys.length ≤ cap) (hm : cap ≤ 9223372036854775807)
    (hs : o + cap ≤ cur.size) (ht : (cur.toList.drop o).take xs.length = xs) :
    Own (w.setRow g (cur.toList.take (o + xs.length) ++ ys ++ cur.toList.drop (o + xs.length + ys.length)).toArray) B e (.slice (some ⟨g, o, none⟩) (xs.length + ys.length) cap) (xs ++ ys) := by
  refine .inr ⟨g, o, cap, _, by simp, hB, setRow_heap w g cur _ e _ hg, by simpa using hr, hm, ?_, ?_⟩
  · simp only [List.size_toArray, List.length_append, List.length_take, List.length_drop, Array.length_toList]; omega
  · apply List.ext_getElem?
    intro j
    have hlt : (cur.toList.take (o + xs.length)).length = o + xs.length := by simp; omega
    rw [List.getElem?_take]
    by_cases hj : j < (xs ++ ys).length
    · rw [if_pos hj, List.getElem?_drop, List.append_assoc]
      rw [List.length_append] at hj
      by_cases hx : j < xs.length
      · rw [List.getElem?_append_left (by omega), List.getElem?_append_left hx, List.getElem?_take, if_pos (by omega)]
        have := congrArg (fun l : List Value => l[j]?) ht
        simp only [List.getElem?_take, if_pos hx, List.getElem?_drop] at this
        exact this
      · have hR : (xs ++ ys)[j]? = ys[j - xs.length]? := List.getElem?_append_right (by omega)
        rw [hR, List.getElem?_append_right (by omega), hlt, List.getElem?_append_left (by omega)]
        congr 1; omega
    · rw [if_neg hj, List.getElem?_eq_none (by omega)]

theorem grown_setRow (w : World) (g : Nat) (cs : Array Value) : w.grownBy (w.setRow g cs) (some g) :=
  ⟨rfl, rfl, rfl, by simp, fun k _ hk => setRow_other w g k _ (fun e => hk (by rw [e]))⟩

theorem own_grown {w : World} {e : TypeId} {z : Value} {xs ys : List Value} {B cap : Nat} (hB : B ≤ w.heap.size) (hc : xs.length + ys.length ≤ cap) (hm : cap ≤ 9223372036854775807) :
    Own (w.drew.alloc (.cells (xs.toArray ++ ys.toArray ++ Builtin.zeroCells #[z] (cap - (xs.length + ys.length))) e)) B e (.slice (some ⟨w.heap.size, 0, none⟩) (xs.length + ys.length) cap) (xs ++ ys) := by
  refine .inr ⟨w.heap.size, 0, cap, _, by simp, hB, heap_alloc_new w.drew _, by simpa using hc, hm, ?_, ?_⟩
  · simp [size_zeroCells]; omega
  · simp only [List.drop_zero, Array.toList_append]
    rw [← List.length_append, List.take_left]

theorem app_run {P : Program} {w : World} {T ty e : TypeId} {z : Value} {b : Nat} (hT : P.underlying T = some (.slice e)) (hi : (P.info? e).map (fun i => (i.zero, i.size, i.bytes)) = some (some z, 1, b)) (hz : z.cells = #[z])
    {B : Nat} {v u : Value} {xs ys : List Value} (hv : Own w B e v xs) (hu : Reads w u ys) (h1 : ∀ y ∈ ys, y.oneCell' = true) (hB : B ≤ w.heap.size) (hb : (xs.length + ys.length) * b ≤ 140737488355328) (hb0 : 0 < b) :
    ∃ v' w', (Builtin.append_ #[T, T] ty #[v, u]).run P w = .ok v' w' ∧ Own w' B e v' (xs ++ ys) ∧ w.grownBy w' (blk v) := by
  obtain ⟨i, hii, hz', hi1, hi8⟩ := info_parts hi
  clear hi
  subst hi8
  have hf := reads_cells hu (P := P)
  have hn : xs.length + ys.length ≤ 140737488355328 := Nat.le_trans (Nat.le_mul_of_pos_right _ hb0) hb
  obtain ⟨a, c, rfl, ha⟩ := hu.form
  rcases hv with ⟨rfl, rfl⟩ | ⟨g, o, cap, cur, rfl, hBg, hg, hnc, hm, hs, ht⟩
  · by_cases hys : ys = []
    · subst hys
      refine ⟨.slice none 0 0, w, ?_, .inl ⟨rfl, rfl⟩, grown_refl _ _⟩
      cases a <;> simp [Builtin.append_, run_underlying hT, sizeOf, typeInfo, hii, Builtin.lenOf, Builtin.firstCells, loadCells, loadCellsFrom]
    · cases a with
      | none => exact absurd rfl (ha hys)
      | some a =>
        have hpos : 0 < ys.length := List.length_pos_iff.2 hys
        have hb' : ys.length * i.bytes ≤ 140737488355328 := by simpa using hb
        have hr := run_append_nil (P := P) w T ty e i z hT hii hz' a ys.length c ys (by rw [hi1]; simp) (fun j x hx => hu.cell j x hx) hpos (by simp at hn; omega) (by omega)
        have hge := grownCap_ge w ys.length 0 e
        have hcm := grownCap_le_maxLen w ys.length 0 e (by simp [maxLen] at hn ⊢; omega)
        simp only [maxLen] at hcm
        have ho := own_grown (w := w) (e := e) (z := z) (xs := []) (ys := ys) (B := B) (cap := grownCap w ys.length 0 e) hB (by simpa using hge) (by omega)
        simp only [List.length_nil, Nat.zero_add, Array.empty_append, List.nil_append] at ho
        rw [hz] at hr
        exact ⟨_, _, hr, ho, rfl, rfl, rfl, by simp, fun k hk _ => heap_alloc_old w.drew _ hk⟩
  · by_cases hroom : xs.length + ys.length ≤ cap
    · have hst := run_storeCells_at P g (o + xs.length) e ys 0 cur w hg (by omega) h1
      simp only [Nat.add_zero] at hst
      refine ⟨_, _, ?_, own_setRow hBg hg hroom hm hs ht, grown_setRow w g _⟩
      simp [Builtin.append_, run_underlying hT, sizeOf, typeInfo, hii, hi1, Builtin.lenOf, hroom, hf, add_lit, hst]
    · cases a with
      | none =>
        have hys : ys = [] := by
          cases ys with
          | nil => rfl
          | cons y r => exact absurd rfl (ha (by simp))
        subst hys; simp at hroom; omega
      | some a =>
        have hold : ∀ j x, xs[j]? = some x → w.cell? ((⟨g, o, none⟩ : Addr).add j) = some x := by
          have ho : Own w B e (.slice (some ⟨g, o, none⟩) xs.length cap) xs := .inr ⟨g, o, cap, cur, rfl, hBg, hg, hnc, hm, hs, ht⟩
          exact fun j x hx => ho.reads.cell j x hx
        have hr := run_append_grow (P := P) w T ty e i z hT hii hz' ⟨g, o, none⟩ xs.length cap xs (by rw [hi1]; simp) hold a ys.length c ys (by rw [hi1]; simp) (fun j x hx => hu.cell j x hx) (by omega) (by omega) (growslice_fits (by omega) hb)
        have hge := grownCap_ge w (xs.length + ys.length) cap e
        have hcm := grownCap_le_maxLen w (xs.length + ys.length) cap e (by simp [maxLen]; omega)
        simp only [maxLen] at hcm
        rw [hz] at hr
        exact ⟨_, _, hr, own_grown hB hge (by omega), rfl, rfl, rfl, by simp, fun k hk _ => heap_alloc_old w.drew _ hk⟩

/-- the new slice literal of one element, ahead of an append -/
theorem reads_one (w : World) (x : Value) (e : TypeId) : Reads (w.alloc (.cells #[x] e)) (.slice (some ⟨w.heap.size, 0, none⟩) 1 1) [x] := by
  refine ⟨⟨_, _, rfl, by simp⟩, by simp, by rintro a n c e; cases e; exact Nat.le_refl _, ?_⟩
  intro i y hy
  have hi : i = 0 := by
    rcases Nat.lt_or_ge i 1 with h | h
    · omega
    · rw [List.getElem?_eq_none (by simpa using h)] at hy; cases hy
  subst hi
  simp at hy; subst hy
  show (w.alloc _).cell? ((⟨w.heap.size, 0, none⟩ : Addr).add 0) = _
  rw [add_lit]; simp

/-- the empty slice literal -/
theorem own_empty (w : World) (e : TypeId) {B : Nat} (hB : B ≤ w.heap.size) : Own (w.alloc (.cells #[] e)) B e (.slice (some ⟨w.heap.size, 0, none⟩) 0 0) [] :=
  .inr ⟨w.heap.size, 0, 0, #[], rfl, hB, heap_alloc_new w _, by simp, by simp, by simp, by simp⟩

theorem own_alloc {w : World} {B : Nat} {e : TypeId} {v : Value} {xs : List Value} (h : Own w B e v xs) (o : Obj) : Own (w.alloc o) B e v xs := h.below ((Below.refl _ _).alloc (Nat.le_refl _) o)
theorem reads_alloc {w : World} {v : Value} {xs : List Value} (h : Reads w v xs) (o : Obj) : Reads (w.alloc o) v xs := h.below ((Below.refl _ _).alloc (Nat.le_refl _) o)

theorem oneCell_ints (l : List Int) : ∀ y ∈ ints l, y.oneCell' = true := by
  intro y hy
  simp only [ints, List.mem_map] at hy
  obtain ⟨a, _, rfl⟩ := hy
  rfl

/-- behind 'out = append(out, x)', out the call's own: what a loop keeps -/
theorem app_one {P : Program} {w : World} {T ty e : TypeId} {z x : Value} {b : Nat} (hT : P.underlying T = some (.slice e)) (hi : (P.info? e).map (fun i => (i.zero, i.size, i.bytes)) = some (some z, 1, b)) (hz : z.cells = #[z])
    {B : Nat} {v : Value} {xs : List Value} (hv : Own w B e v xs) (hx : x.oneCell' = true) (hB : B ≤ w.heap.size) (hb : (xs.length + 1) * b ≤ 140737488355328) (hb0 : 0 < b) {w0 : World} {B0 : Nat} (hw : Below B0 w0 w) (hB0 : B0 ≤ B) :
    ∃ v' w', (Builtin.append_ #[T, T] ty #[v, .slice (some ⟨w.heap.size, 0, none⟩) 1 1]).run P (w.alloc (.cells #[x] e)) = .ok v' w' ∧ Own w' B e v' (xs ++ [x]) ∧ Below B0 w0 w' := by
  obtain ⟨v', w', hr, ho, hg⟩ := app_run (ty := ty) hT hi hz (own_alloc hv (.cells #[x] e)) (reads_one w x e) (by simpa using hx) (by simp; omega) (by simpa using hb) hb0
  refine ⟨v', w', hr, ho, ?_⟩
  exact (hw.alloc (by omega) _).grown hg (by simp; omega) (fun k hk => by have := (hv.blk_lt hk).1; omega)

/-- the walk's step at an append whose run is known -/
theorem wpList_app {P : Program} {w w' : World} {ops : Array Oper} {rest : List Oper} {o : Oper} {a : Act} {Q : Exit → Act → World → Prop} {v v' u : Value} {T : TypeId}
    (hr : (Builtin.append_ #[T, T] o.type #[v, u]).run P w = .ok v' w') (hg : o.guard = none) (s x : Operand)
    (ho : o.op = .call { callee := .builtin .append, args := #[s, x], argTypes := #[T, T] }) (hs : a.eval s = v) (hx : a.eval x = u)
    (hK : wpList P ops Q rest (a.put o.dst v') w') : wpList P ops Q (o :: rest) a w := by
  refine wpList_plain hg fun K hK' => ?_
  unfold Oper.wp
  simp [execOp, ho, resolve, invoke, builtin, hs, hx, hr, Result.andThen]
  exact hK' _ _ hK

end Go.Proofs.YtkgdbobhppmaiaaDoor
