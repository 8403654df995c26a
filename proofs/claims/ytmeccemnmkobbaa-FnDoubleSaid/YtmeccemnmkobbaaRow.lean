/- Slices of slices of numbers: what they read as, and which of them a call owns. Plain laws of memory. -/
import Derived.Test.YtmeccemnmkobbaaOwi
namespace Go.Proofs.Ytmeccemnmkobbaa
open Go.RowKit

/-- the slice value in row i, and the numbers in row i -/
def vat (vs : List Value) (i : Nat) : Value := vs[i]?.getD (.slice none 0 0)
def rat (ls : List (List Int)) (i : Nat) : List Int := ls[i]?.getD []
theorem vat_of {vs : List Value} {i : Nat} (h : i < vs.length) : vs[i]? = some (vat vs i) := by simp [vat, h]
theorem rat_of {ls : List (List Int)} {i : Nat} (h : i < ls.length) : ls[i]? = some (rat ls i) := by simp [rat, h]
/-- how many numbers there are, and rows with them -/
def tot (ls : List (List Int)) : Int := (ls.map fun l => (l.length : Int)).sum
theorem tot_nil : tot [] = 0 := rfl
theorem tot_cons (l : List Int) (ls : List (List Int)) : tot (l :: ls) = l.length + tot ls := by simp [tot]
theorem tot_nonneg (ls : List (List Int)) : 0 ≤ tot ls := by
  induction ls with
  | nil => exact Int.le_refl _
  | cons l ls ih => rw [tot_cons]; omega
theorem tot_append (a b : List (List Int)) : tot (a ++ b) = tot a + tot b := by
  induction a with
  | nil => simp [tot_nil]
  | cons l a ih => rw [List.cons_append, tot_cons, tot_cons, ih]; omega
theorem take_rat {ls : List (List Int)} {k : Nat} (h : k < ls.length) : ls.take (k + 1) = ls.take k ++ [rat ls k] := by
  rw [List.take_add_one, rat_of h]; rfl
theorem tot_take {ls : List (List Int)} {k : Nat} (h : k < ls.length) : tot (ls.take (k + 1)) = tot (ls.take k) + (rat ls k).length := by
  rw [take_rat h, tot_append, tot_cons, tot_nil]; omega
theorem tot_take_le {ls : List (List Int)} (k : Nat) : tot (ls.take k) ≤ tot ls := by
  have := tot_append (ls.take k) (ls.drop k)
  rw [List.take_append_drop] at this
  have := tot_nonneg (ls.drop k); omega
theorem row_le_tot {ls : List (List Int)} {k : Nat} (h : k < ls.length) : ((rat ls k).length : Int) ≤ tot ls := by
  have h1 := tot_take h
  have h2 := tot_take_le (ls := ls) (k + 1)
  have h3 := tot_nonneg (ls.take k); omega

/-- v reads as rows of numbers -/
structure RowsR (w : World) (vs : List Value) (ls : List (List Int)) : Prop where
  len : vs.length = ls.length
  row : ∀ i, i < ls.length → Reads w (vat vs i) (ints (rat ls i))
def ReadsII (w : World) (v : Value) (ls : List (List Int)) : Prop := ∃ vs, Reads w v vs ∧ RowsR w vs ls
theorem ReadsII.small {w : World} {v : Value} {ls : List (List Int)} (h : ReadsII w v ls) : ls.length ≤ 9223372036854775807 := by
  obtain ⟨vs, h1, h2⟩ := h
  rw [← h2.len]; exact h1.small
theorem RowsR.keep {w w' : World} {vs : List Value} {ls : List (List Int)} (h : RowsR w vs ls) (hk : ∀ v xs, Reads w v xs → Reads w' v xs) : RowsR w' vs ls := ⟨h.len, fun i hi => hk _ _ (h.row i hi)⟩
theorem RowsR.below {w w' : World} {vs : List Value} {ls : List (List Int)} (h : RowsR w vs ls) (hb : Below w.heap.size w w') : RowsR w' vs ls := h.keep fun _ _ hr => hr.below hb
theorem ReadsII.below {w w' : World} {v : Value} {ls : List (List Int)} (h : ReadsII w v ls) (hb : Below w.heap.size w w') : ReadsII w' v ls := by
  obtain ⟨vs, h1, h2⟩ := h
  exact ⟨vs, h1.below hb, h2.below hb⟩
theorem ReadsII.drewN {w : World} {v : Value} {ls : List (List Int)} (h : ReadsII w v ls) (n : Nat) : ReadsII (w.drewN n) v ls := by
  obtain ⟨vs, h1, h2⟩ := h
  exact ⟨vs, h1.drewN n, h2.keep fun _ _ hr => hr.drewN n⟩
theorem ReadsII.alloc {w : World} {v : Value} {ls : List (List Int)} (h : ReadsII w v ls) (o : Obj) : ReadsII (w.alloc o) v ls := h.below ((Below.refl _ _).alloc (Nat.le_refl _) o)

/-- v and its rows are the call's own, in blocks from lo on and below hi, each in a block of its own -/
structure OwnR (w : World) (lo hi : Nat) (eo ei : TypeId) (v : Value) (vs : List Value) (ls : List (List Int)) : Prop where
  out : OwnI w lo hi eo v vs
  len : vs.length = ls.length
  row : ∀ i, i < ls.length → OwnI w lo hi ei (vat vs i) (ints (rat ls i))
  apart : ∀ i j, i < j → j < ls.length → Apart (vat vs i) (vat vs j)
  outer : ∀ i, i < ls.length → Apart (vat vs i) v
def OwnII (w : World) (lo hi : Nat) (eo ei : TypeId) (v : Value) (ls : List (List Int)) : Prop := ∃ vs, OwnR w lo hi eo ei v vs ls
theorem OwnR.rows {w : World} {lo hi : Nat} {eo ei : TypeId} {v : Value} {vs : List Value} {ls : List (List Int)} (h : OwnR w lo hi eo ei v vs ls) : RowsR w vs ls := ⟨h.len, fun i hi => (h.row i hi).reads⟩
theorem OwnII.reads {w : World} {lo hi : Nat} {eo ei : TypeId} {v : Value} {ls : List (List Int)} (h : OwnII w lo hi eo ei v ls) : ReadsII w v ls := by
  obtain ⟨vs, h⟩ := h
  exact ⟨vs, h.out.reads, h.rows⟩
theorem OwnR.keep {w w' : World} {lo hi : Nat} {eo ei : TypeId} {v : Value} {vs : List Value} {ls : List (List Int)} (h : OwnR w lo hi eo ei v vs ls) (hk : ∀ e v xs, OwnI w lo hi e v xs → OwnI w' lo hi e v xs) : OwnR w' lo hi eo ei v vs ls :=
  ⟨hk _ _ _ h.out, h.len, fun i hi => hk _ _ _ (h.row i hi), h.apart, h.outer⟩
theorem OwnII.below {w w' : World} {lo hi : Nat} {eo ei : TypeId} {v : Value} {ls : List (List Int)} (h : OwnII w lo hi eo ei v ls) (hb : Below w.heap.size w w') : OwnII w' lo hi eo ei v ls := by
  obtain ⟨vs, h⟩ := h
  exact ⟨vs, h.keep fun _ _ _ k => k.below hb⟩
theorem OwnII.alloc {w : World} {lo hi : Nat} {eo ei : TypeId} {v : Value} {ls : List (List Int)} (h : OwnII w lo hi eo ei v ls) (o : Obj) : OwnII (w.alloc o) lo hi eo ei v ls := h.below ((Below.refl _ _).alloc (Nat.le_refl _) o)
theorem OwnII.gri {w w' : World} {lo hi lo' hi' : Nat} {eo ei : TypeId} {v : Value} {ls : List (List Int)} (h : OwnII w lo' hi' eo ei v ls) (hg : GrI w w' lo hi) (hd : hi' ≤ lo ∨ hi ≤ lo') : OwnII w' lo' hi' eo ei v ls := by
  obtain ⟨vs, h⟩ := h
  exact ⟨vs, h.keep fun _ _ _ k => k.gri hg hd⟩
theorem OwnI.lowerR {w : World} {lo lo' hi hi' : Nat} {e : TypeId} {v : Value} {xs : List Value} (h : OwnI w lo hi e v xs) (hl : lo' ≤ lo) (hh : hi ≤ hi') : OwnI w lo' hi' e v xs := ⟨h.own.mono hl, fun k hk => by have := h.top k hk; omega⟩
theorem OwnII.widen {w : World} {lo lo' hi hi' : Nat} {eo ei : TypeId} {v : Value} {ls : List (List Int)} (h : OwnII w lo hi eo ei v ls) (hl : lo' ≤ lo) (hh : hi ≤ hi') : OwnII w lo' hi' eo ei v ls := by
  obtain ⟨vs, h⟩ := h
  exact ⟨vs, h.out.lowerR hl hh, h.len, fun i hi => (h.row i hi).lowerR hl hh, h.apart, h.outer⟩
theorem OwnII.lower {w : World} {lo lo' hi : Nat} {eo ei : TypeId} {v : Value} {ls : List (List Int)} (h : OwnII w lo hi eo ei v ls) (hl : lo' ≤ lo) : OwnII w lo' hi eo ei v ls := h.widen hl (Nat.le_refl _)
theorem OwnII.form {w : World} {lo hi : Nat} {eo ei : TypeId} {v : Value} {ls : List (List Int)} (h : OwnII w lo hi eo ei v ls) : ∃ a n c, v = .slice a n c := by
  obtain ⟨vs, h⟩ := h
  exact h.out.form
theorem OwnII.form3 {w : World} {lo hi : Nat} {eo ei : TypeId} {v : Value} {ls : List (List Int)} (h : OwnII w lo hi eo ei v ls) : ∃ a n c, v = .slice a n c := h.form
theorem OwnI.blk_lt {w : World} {lo hi : Nat} {e : TypeId} {v : Value} {xs : List Value} (h : OwnI w lo hi e v xs) {k : Nat} (hk : blk v = some k) : lo ≤ k ∧ k < hi := ⟨(h.own.blk_lt hk).1, h.top k hk⟩

/-- a change inside one interval as part of a larger one -/
theorem GrI.widen {w w' : World} {lo hi lo' hi' : Nat} (h : GrI w w' lo hi) (hl : lo' ≤ lo) (hh : hi ≤ hi') : GrI w w' lo' hi' := ⟨h.os, h.tape, h.output, h.size, fun k hk hd => h.block k hk (by omega)⟩
theorem GrI.refl (w : World) (lo hi : Nat) : GrI w w lo hi := ⟨rfl, rfl, rfl, Nat.le_refl _, fun _ _ _ => rfl⟩
theorem GrI.trans {a b c : World} {lo hi : Nat} (h : GrI a b lo hi) (k : GrI b c lo hi) : GrI a c lo hi :=
  ⟨k.os.trans h.os, k.tape.trans h.tape, k.output.trans h.output, Nat.le_trans h.size k.size, fun i hi hd => (k.block i (Nat.lt_of_lt_of_le hi h.size) hd).trans (h.block i hi hd)⟩
theorem GrI.ofBelow {w w' : World} (h : Below w.heap.size w w') (lo hi : Nat) : GrI w w' lo hi := ⟨h.os, h.tape, h.output, h.size, fun k hk _ => h.block k hk⟩
theorem GrI.set {w w' : World} {lo hi : Nat} (h : GrI w w' lo hi) {a : Addr} (h1 : lo ≤ a.block) (h2 : a.block < hi) (u : Value) : GrI w (w'.setCell a u) lo hi :=
  ⟨h.os, h.tape, h.output, by simpa [World.setCell] using h.size, fun k hk hd => (Below.heap_setCell _ _ _ _ (by omega)).trans (h.block k hk hd)⟩
theorem GrI.drewN {w w' : World} {lo hi : Nat} (h : GrI w w' lo hi) (n : Nat) : GrI w (w'.drewN n) lo hi := ⟨h.os, h.tape, h.output, h.size, h.block⟩
theorem GrI.reads {w w' : World} {lo hi : Nat} (hg : GrI w w' lo hi) {v : Value} {xs : List Value} (h : Reads w v xs) (hd : ∀ k, blk v = some k → k < lo ∨ hi ≤ k) : Reads w' v xs := h.keep fun k hk hlt => hg.block k hlt (hd k hk)

/-- one row changes in place -/
theorem OwnR.setRow {w w' : World} {lo hi : Nat} {eo ei : TypeId} {v : Value} {vs : List Value} {ls : List (List Int)} (h : OwnR w lo hi eo ei v vs ls) {i : Nat} (hi' : i < ls.length) {l : List Int} (ho : Own w' lo ei (vat vs i) (ints l)) (hg : w.grownBy w' (blk (vat vs i))) :
    OwnR w' lo hi eo ei v vs (ls.set i l) ∧ GrI w w' lo hi := by
  have hrat : ∀ j, j < ls.length → rat (ls.set i l) j = if i = j then l else rat ls j := by
    intro j hj
    unfold rat
    rw [List.getElem?_set]
    by_cases e : i = j
    · subst e; simp [hj]
    · simp [e]
  refine ⟨⟨⟨h.out.own.grown hg (fun k hk e => h.outer i hi' k e hk.symm), h.out.top⟩, by simpa using h.len, ?_, fun a b hab hb => h.apart a b hab (by simpa using hb), fun a ha => h.outer a (by simpa using ha)⟩, GrI.of (h.row i hi') hg⟩
  intro j hj
  rw [List.length_set] at hj
  rw [hrat j hj]
  by_cases e : i = j
  · subst e; rw [if_pos rfl]; exact ⟨ho, (h.row i hi').top⟩
  · rw [if_neg e]
    refine ⟨(h.row j hj).own.grown hg (fun k hk e2 => ?_), (h.row j hj).top⟩
    rcases Nat.lt_or_gt_of_ne e with h1 | h1
    · exact h.apart i j h1 hj k e2 hk.symm
    · exact h.apart j i h1 hi' k hk e2.symm

/-- the marks of the rows, one row after the other -/
def marksL : List (List Int) → Int → List (List Int)
  | [], _ => []
  | l :: ls, q => marks l.length q :: marksL ls (q + l.length)
@[simp] theorem length_marksL (ls : List (List Int)) (q : Int) : (marksL ls q).length = ls.length := by
  induction ls generalizing q with
  | nil => rfl
  | cons l ls ih => simp [marksL, ih]
theorem rat_marksL {ls : List (List Int)} (q : Int) {k : Nat} (h : k < ls.length) : rat (marksL ls q) k = marks (rat ls k).length (q + tot (ls.take k)) := by
  induction ls generalizing q k with
  | nil => simp at h
  | cons l ls ih =>
    cases k with
    | zero => simp [rat, marksL, tot_nil]
    | succ k =>
      have := ih (q + l.length) (k := k) (by simpa using h)
      show rat (marksL ls (q + l.length)) k = _
      rw [this, List.take_succ_cons, tot_cons]
      show marks (rat ls k).length _ = marks (rat ls k).length _
      congr 1; omega
theorem tot_marksL (ls : List (List Int)) (q : Int) : tot (marksL ls q) = tot ls := by
  induction ls generalizing q with
  | nil => rfl
  | cons l ls ih => rw [marksL, tot_cons, tot_cons, ih]; simp
theorem mark_rows {ls : List (List Int)} (q : Int) {k : Nat} (h : k < ls.length) : ((marksL ls q).take k ++ ls.drop k).set k (marks (rat ls k).length (q + tot (ls.take k))) = (marksL ls q).take (k + 1) ++ ls.drop (k + 1) := by
  have hk : ((marksL ls q).take k).length = k := by simp; omega
  rw [List.set_append_right _ _ (by omega), hk, Nat.sub_self, List.drop_eq_getElem_cons h, List.set_cons_zero, take_rat (by simpa using h), rat_marksL q h]
  simp
theorem rat_mid {ls : List (List Int)} (q : Int) {k : Nat} (h : k < ls.length) : rat ((marksL ls q).take k ++ ls.drop k) k = rat ls k := by
  have hk : ((marksL ls q).take k).length = k := by simp; omega
  unfold rat
  rw [List.getElem?_append_right (by omega), hk, Nat.sub_self, List.getElem?_drop, Nat.add_zero]

end Go.Proofs.Ytmeccemnmkobbaa
