/- append once more, with the block of its result: the old one or a new one; slices that lie apart. -/
import Derived.Test.YtkgdbobhppmaiaaDoorApp
namespace Go.Proofs.YtkgdbobhppmaiaaDoor
open Go.RowKit

/-- two slices lie in different blocks -/
def Apart (u v : Value) : Prop := ∀ k, blk u = some k → some k ≠ blk v
theorem apart_new {w w' : World} {B : Nat} {e e' : TypeId} {u v : Value} {xs ys : List Value} (h : Own w B e u xs) (h' : Own w' w.heap.size e' v ys) : Apart u v := by
  intro k hk hv
  have h1 := (h.blk_lt hk).2
  have h2 := (h'.blk_lt hv.symm).1
  omega
theorem apart_new' {w w' : World} {B : Nat} {e e' : TypeId} {u v : Value} {xs ys : List Value} (h : Own w B e u xs) (h' : Own w' w.heap.size e' v ys) : Apart v u := by
  intro k hk hv
  have h1 := (h.blk_lt hv.symm).2
  have h2 := (h'.blk_lt hk).1
  omega
theorem Apart.ne {u v : Value} (h : Apart u v) : ∀ k, blk u = some k → blk v ≠ some k := fun k hk e => h k hk e.symm
theorem Apart.symm {u v : Value} (h : Apart u v) : Apart v u := fun k hk e => h k e.symm hk.symm
/-- v' is in v's block, or in a new one -/
def Stays (w : World) (v v' : Value) : Prop := ∀ k, blk v' = some k → blk v = some k ∨ w.heap.size ≤ k
theorem stays_new (w : World) (v : Value) (n c : Nat) : Stays w v (.slice (some ⟨w.heap.size, 0, none⟩) n c) := by
  intro k hk
  simp [blk] at hk
  exact .inr (by omega)
theorem Apart.stays {w : World} {B : Nat} {e : TypeId} {u v v' : Value} {xs : List Value} (h : Apart u v) (hu : Own w B e u xs) (hs : Stays w v v') : Apart u v' := by
  intro k hk hv
  rcases hs k hv.symm with h1 | h1
  · exact h k hk h1.symm
  · have := (hu.blk_lt hk).2; omega
theorem Apart.of_blk {u v v' : Value} (h : Apart u v) (hb : blk v' = blk v) : Apart u v' := fun k hk e => h k hk (e.trans hb)

theorem app_runF {P : Program} {w : World} {T ty e : TypeId} {z : Value} {b : Nat} (hT : P.underlying T = some (.slice e)) (hi : (P.info? e).map (fun i => (i.zero, i.size, i.bytes)) = some (some z, 1, b)) (hz : z.cells = #[z])
    {B : Nat} {v u : Value} {xs ys : List Value} (hv : Own w B e v xs) (hu : Reads w u ys) (h1 : ∀ y ∈ ys, y.oneCell' = true) (hB : B ≤ w.heap.size) (hb : (xs.length + ys.length) * b ≤ 140737488355328) (hb0 : 0 < b) :
    ∃ v' w', (Builtin.append_ #[T, T] ty #[v, u]).run P w = .ok v' w' ∧ Own w' B e v' (xs ++ ys) ∧ w.grownBy w' (blk v) ∧ Stays w v v' := by
  obtain ⟨i, hii, hz', hi1, hi8⟩ := info_parts hi
  clear hi
  subst hi8
  have hf := reads_cells hu (P := P)
  have hn : xs.length + ys.length ≤ 140737488355328 := Nat.le_trans (Nat.le_mul_of_pos_right _ hb0) hb
  obtain ⟨a, c, rfl, ha⟩ := hu.form
  rcases hv with ⟨rfl, rfl⟩ | ⟨g, o, cap, cur, rfl, hBg, hg, hnc, hm, hs, ht⟩
  · by_cases hys : ys = []
    · subst hys
      refine ⟨.slice none 0 0, w, ?_, .inl ⟨rfl, rfl⟩, grown_refl _ _, fun k hk => .inl hk⟩
      cases a <;> simp [Builtin.append_, run_underlying hT, sizeOf, typeInfo, hii, Builtin.lenOf, Builtin.firstCells, loadCells, loadCellsFrom]
    · cases a with
      | none => exact absurd rfl (ha hys)
      | some a =>
        have hpos : 0 < ys.length := List.length_pos_iff.2 hys
        have hb' : ys.length * i.bytes ≤ 140737488355328 := by simpa using hb
        have hr := run_append_nil (P := P) w T ty e i z hT hii hz' a ys.length c ys (by rw [hi1]; simp) (fun j x hx => hu.cell j x hx) hpos (by simp at hn; omega) (by omega)
        have hge := grownCap_ge w ys.length 0 e
        have hcm := grownCap_le_maxLen w ys.length 0 e (by simp [maxLen] at hn ⊢; omega)
        simp only [maxLen] at hcm
        have ho := own_grown (w := w) (e := e) (z := z) (xs := []) (ys := ys) (B := B) (cap := grownCap w ys.length 0 e) hB (by simpa using hge) (by omega)
        simp only [List.length_nil, Nat.zero_add, Array.empty_append, List.nil_append] at ho
        rw [hz] at hr
        exact ⟨_, _, hr, ho, ⟨rfl, rfl, rfl, by simp, fun k hk _ => heap_alloc_old w.drew _ hk⟩, stays_new _ _ _ _⟩
  · by_cases hroom : xs.length + ys.length ≤ cap
    · have hst := run_storeCells_at P g (o + xs.length) e ys 0 cur w hg (by omega) h1
      simp only [Nat.add_zero] at hst
      refine ⟨_, _, ?_, own_setRow hBg hg hroom hm hs ht, grown_setRow w g _, fun k hk => .inl hk⟩
      simp [Builtin.append_, run_underlying hT, sizeOf, typeInfo, hii, hi1, Builtin.lenOf, hroom, hf, add_lit, hst]
    · cases a with
      | none =>
        have hys : ys = [] := by
          cases ys with
          | nil => rfl
          | cons y r => exact absurd rfl (ha (by simp))
        subst hys; simp at hroom; omega
      | some a =>
        have hold : ∀ j x, xs[j]? = some x → w.cell? ((⟨g, o, none⟩ : Addr).add j) = some x := by
          have ho : Own w B e (.slice (some ⟨g, o, none⟩) xs.length cap) xs := .inr ⟨g, o, cap, cur, rfl, hBg, hg, hnc, hm, hs, ht⟩
          exact fun j x hx => ho.reads.cell j x hx
        have hr := run_append_grow (P := P) w T ty e i z hT hii hz' ⟨g, o, none⟩ xs.length cap xs (by rw [hi1]; simp) hold a ys.length c ys (by rw [hi1]; simp) (fun j x hx => hu.cell j x hx) (by omega) (by omega) (growslice_fits (by omega) hb)
        have hge := grownCap_ge w (xs.length + ys.length) cap e
        have hcm := grownCap_le_maxLen w (xs.length + ys.length) cap e (by simp [maxLen]; omega)
        simp only [maxLen] at hcm
        rw [hz] at hr
        exact ⟨_, _, hr, own_grown hB hge (by omega), ⟨rfl, rfl, rfl, by simp, fun k hk _ => heap_alloc_old w.drew _ hk⟩, stays_new _ _ _ _⟩


/-- behind 'out = append(out, x)', out the call's own: all that a loop over several slices keeps -/
theorem app_oneF {P : Program} {w : World} {T ty e : TypeId} {z x : Value} {b : Nat} (hT : P.underlying T = some (.slice e)) (hi : (P.info? e).map (fun i => (i.zero, i.size, i.bytes)) = some (some z, 1, b)) (hz : z.cells = #[z])
    {B : Nat} {v : Value} {xs : List Value} (hv : Own w B e v xs) (hx : x.oneCell' = true) (hB : B ≤ w.heap.size) (hb : (xs.length + 1) * b ≤ 140737488355328) (hb0 : 0 < b) :
    ∃ v' w', (Builtin.append_ #[T, T] ty #[v, .slice (some ⟨w.heap.size, 0, none⟩) 1 1]).run P (w.alloc (.cells #[x] e)) = .ok v' w' ∧ Own w' B e v' (xs ++ [x]) ∧ w.grownBy w' (blk v) ∧ Stays w v v' := by
  obtain ⟨v', w', hr, ho, hg, hs⟩ := app_runF (ty := ty) hT hi hz (own_alloc hv (.cells #[x] e)) (reads_one w x e) (by simpa using hx) (by simp; omega) (by simpa using hb) hb0
  refine ⟨v', w', hr, ho, ?_, ?_⟩
  · exact grown_trans (grown_of_below ((Below.refl _ _).alloc (Nat.le_refl _) _) _) hg
  · intro k hk
    rcases hs k hk with h | h
    · exact .inl h
    · exact .inr (by simp at h; omega)

end Go.Proofs.YtkgdbobhppmaiaaDoor
