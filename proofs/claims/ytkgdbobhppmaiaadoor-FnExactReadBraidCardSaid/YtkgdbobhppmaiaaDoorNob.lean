/- Contracts: the laws' helpers on slices of slices and on normal forms. -/
import Derived.Test.YtkgdbobhppmaiaaDoorBx
import Derived.Deep.DeepCutAuto
import Derived.Test.YtkgdbobhppmaiaaDoorBrc
namespace Go.Proofs.YtkgdbobhppmaiaaDoor
open Go.RowKit

/-- v is a slice in blocks from lo on and below hi, and reads as xs -/
structure OwnI (w : World) (lo hi : Nat) (e : TypeId) (v : Value) (xs : List Value) : Prop where
  own : Own w lo e v xs
  top : ∀ k, blk v = some k → k < hi
/-- only blocks from lo on and below hi, and new ones, have changed -/
structure GrI (w w' : World) (lo hi : Nat) : Prop where
  os : w'.os = w.os
  tape : w'.tape = w.tape
  output : w'.output = w.output
  size : w.heap.size ≤ w'.heap.size
  block : ∀ k, k < w.heap.size → k < lo ∨ hi ≤ k → w'.heap[k]? = w.heap[k]?
theorem OwnI.of {w w' : World} {e : TypeId} {v : Value} {xs : List Value} (h : Own w' w.heap.size e v xs) : OwnI w' w.heap.size w'.heap.size e v xs := ⟨h, fun _ hk => (h.blk_lt hk).2⟩
theorem OwnI.reads {w : World} {lo hi : Nat} {e : TypeId} {v : Value} {xs : List Value} (h : OwnI w lo hi e v xs) : Reads w v xs := h.own.reads
theorem OwnI.below {w w' : World} {lo hi : Nat} {e : TypeId} {v : Value} {xs : List Value} (h : OwnI w lo hi e v xs) (hb : Below w.heap.size w w') : OwnI w' lo hi e v xs := ⟨h.own.below hb, h.top⟩
theorem OwnI.alloc {w : World} {lo hi : Nat} {e : TypeId} {v : Value} {xs : List Value} (h : OwnI w lo hi e v xs) (o : Obj) : OwnI (w.alloc o) lo hi e v xs := ⟨own_alloc h.own o, h.top⟩
theorem OwnI.gri {w w' : World} {lo hi lo' hi' : Nat} {e : TypeId} {v : Value} {xs : List Value} (h : OwnI w lo' hi' e v xs) (hg : GrI w w' lo hi) (hd : hi' ≤ lo ∨ hi ≤ lo') : OwnI w' lo' hi' e v xs :=
  ⟨h.own.keep fun k hk hlt => hg.block k hlt (by have := h.top k hk; have := (h.own.blk_lt hk).1; omega), h.top⟩
theorem Bx.gri {w w' : World} {lo hi g : Nat} {cs : List Value} (h : Bx w g cs) (hg : GrI w w' lo hi) (hd : g < lo ∨ hi ≤ g) : Bx w' g cs := h.keep (hg.block g h.lt hd)
theorem GrI.of {w w' : World} {lo hi : Nat} {e : TypeId} {v : Value} {xs : List Value} (h : OwnI w lo hi e v xs) (hg : w.grownBy w' (blk v)) : GrI w w' lo hi :=
  ⟨hg.os, hg.tape, hg.output, hg.size, fun k hk hd => hg.block k hk (fun e => by have := h.top k e.symm; have := (h.own.blk_lt e.symm).1; omega)⟩
theorem OwnI.marked {w w' : World} {lo hi : Nat} {e : TypeId} {v : Value} {xs ys : List Value} (h : OwnI w lo hi e v xs) (ho : Own w' lo e v ys) : OwnI w' lo hi e v ys := ⟨ho, h.top⟩
theorem below_gri {B lo hi : Nat} {a w w' : World} (h : Below B a w) (hg : GrI w w' lo hi) (hB : B ≤ lo) (hs : B ≤ w.heap.size) : Below B a w' := by
  refine ⟨hg.os.trans h.os, hg.tape.trans h.tape, hg.output.trans h.output, Nat.le_trans h.size hg.size, ?_⟩
  intro k hk
  exact (hg.block k (by omega) (.inl (by omega))).trans (h.block k hk)
theorem OwnI.lower {w : World} {lo lo' hi : Nat} {e : TypeId} {v : Value} {xs : List Value} (h : OwnI w lo hi e v xs) (hl : lo' ≤ lo) : OwnI w lo' hi e v xs := ⟨h.own.mono hl, h.top⟩
theorem OwnI.lowered {w : World} {lo lo' hi hi' : Nat} {e : TypeId} {v : Value} {xs : List Value} (h : OwnI w lo hi e v xs) (hl : lo' ≤ lo) (hh : hi ≤ hi' := by simp [World.setCell]) : OwnI w lo' hi' e v xs := ⟨h.own.mono hl, fun k hk => Nat.lt_of_lt_of_le (h.top k hk) hh⟩
theorem OwnI.topped {w : World} {lo hi hi' : Nat} {e : TypeId} {v : Value} {xs : List Value} (h : OwnI w lo hi e v xs) (hh : hi ≤ hi') : OwnI w lo hi' e v xs := ⟨h.own, fun k hk => Nat.lt_of_lt_of_le (h.top k hk) hh⟩
theorem OwnI.setAt {w : World} {lo hi : Nat} {e : TypeId} {v : Value} {xs : List Value} (h : OwnI w lo hi e v xs) {g : Nat} (hg : g < lo) (i : Nat) (x : Value) : OwnI (w.setCell ⟨g, i, none⟩ x) lo hi e v xs :=
  ⟨h.own.keep fun k hk _ => Below.heap_setCell _ _ _ _ (fun e => by have := (h.own.blk_lt hk).1; simp at e; omega), h.top⟩
theorem OwnI.form {w : World} {lo hi : Nat} {e : TypeId} {v : Value} {xs : List Value} (h : OwnI w lo hi e v xs) : ∃ a n c, v = .slice a n c := by
  obtain ⟨a, c, rfl, -⟩ := h.own.reads.form
  exact ⟨a, _, c, rfl⟩

end Go.Proofs.YtkgdbobhppmaiaaDoor

namespace Go.Proofs.YtkgdbobhppmaiaaDoor
open Go.RowKit

/-- the slice value in row i, and the numbers in row i -/
def vat (vs : List Value) (i : Nat) : Value := vs[i]?.getD (.slice none 0 0)
def rat (ls : List (List Int)) (i : Nat) : List Int := ls[i]?.getD []
theorem vat_of {vs : List Value} {i : Nat} (h : i < vs.length) : vs[i]? = some (vat vs i) := by simp [vat, h]
theorem rat_of {ls : List (List Int)} {i : Nat} (h : i < ls.length) : ls[i]? = some (rat ls i) := by simp [rat, h]
/-- how many numbers there are, and rows with them -/
def tot (ls : List (List Int)) : Int := (ls.map fun l => (l.length : Int)).sum
theorem tot_nil : tot [] = 0 := rfl
theorem tot_cons (l : List Int) (ls : List (List Int)) : tot (l :: ls) = l.length + tot ls := by simp [tot]
theorem tot_nonneg (ls : List (List Int)) : 0 ≤ tot ls := by
  induction ls with
  | nil => exact Int.le_refl _
  | cons l ls ih => rw [tot_cons]; omega
theorem tot_append (a b : List (List Int)) : tot (a ++ b) = tot a + tot b := by
  induction a with
  | nil => simp [tot_nil]
  | cons l a ih => rw [List.cons_append, tot_cons, tot_cons, ih]; omega
theorem take_rat {ls : List (List Int)} {k : Nat} (h : k < ls.length) : ls.take (k + 1) = ls.take k ++ [rat ls k] := by
  rw [List.take_add_one, rat_of h]; rfl
theorem tot_take {ls : List (List Int)} {k : Nat} (h : k < ls.length) : tot (ls.take (k + 1)) = tot (ls.take k) + (rat ls k).length := by
  rw [take_rat h, tot_append, tot_cons, tot_nil]; omega
theorem tot_take_le {ls : List (List Int)} (k : Nat) : tot (ls.take k) ≤ tot ls := by
  have := tot_append (ls.take k) (ls.drop k)
  rw [List.take_append_drop] at this
  have := tot_nonneg (ls.drop k); omega
theorem row_le_tot {ls : List (List Int)} {k : Nat} (h : k < ls.length) : ((rat ls k).length : Int) ≤ tot ls := by
  have h1 := tot_take h
  have h2 := tot_take_le (ls := ls) (k + 1)
  have h3 := tot_nonneg (ls.take k); omega

/-- v reads as rows of numbers -/
structure RowsR (w : World) (vs : List Value) (ls : List (List Int)) : Prop where
  len : vs.length = ls.length
  row : ∀ i, i < ls.length → Reads w (vat vs i) (ints (rat ls i))
def ReadsII (w : World) (v : Value) (ls : List (List Int)) : Prop := ∃ vs, Reads w v vs ∧ RowsR w vs ls
theorem ReadsII.small {w : World} {v : Value} {ls : List (List Int)} (h : ReadsII w v ls) : ls.length ≤ 9223372036854775807 := by
  obtain ⟨vs, h1, h2⟩ := h
  rw [← h2.len]; exact h1.small
theorem RowsR.keep {w w' : World} {vs : List Value} {ls : List (List Int)} (h : RowsR w vs ls) (hk : ∀ v xs, Reads w v xs → Reads w' v xs) : RowsR w' vs ls := ⟨h.len, fun i hi => hk _ _ (h.row i hi)⟩
theorem RowsR.below {w w' : World} {vs : List Value} {ls : List (List Int)} (h : RowsR w vs ls) (hb : Below w.heap.size w w') : RowsR w' vs ls := h.keep fun _ _ hr => hr.below hb
theorem ReadsII.below {w w' : World} {v : Value} {ls : List (List Int)} (h : ReadsII w v ls) (hb : Below w.heap.size w w') : ReadsII w' v ls := by
  obtain ⟨vs, h1, h2⟩ := h
  exact ⟨vs, h1.below hb, h2.below hb⟩
theorem ReadsII.drewN {w : World} {v : Value} {ls : List (List Int)} (h : ReadsII w v ls) (n : Nat) : ReadsII (w.drewN n) v ls := by
  obtain ⟨vs, h1, h2⟩ := h
  exact ⟨vs, h1.drewN n, h2.keep fun _ _ hr => hr.drewN n⟩
theorem ReadsII.alloc {w : World} {v : Value} {ls : List (List Int)} (h : ReadsII w v ls) (o : Obj) : ReadsII (w.alloc o) v ls := h.below ((Below.refl _ _).alloc (Nat.le_refl _) o)

/-- v and its rows are the call's own, in blocks from lo on and below hi, each in a block of its own -/
structure OwnR (w : World) (lo hi : Nat) (eo ei : TypeId) (v : Value) (vs : List Value) (ls : List (List Int)) : Prop where
  out : OwnI w lo hi eo v vs
  len : vs.length = ls.length
  row : ∀ i, i < ls.length → OwnI w lo hi ei (vat vs i) (ints (rat ls i))
  apart : ∀ i j, i < j → j < ls.length → Apart (vat vs i) (vat vs j)
  outer : ∀ i, i < ls.length → Apart (vat vs i) v
def OwnII (w : World) (lo hi : Nat) (eo ei : TypeId) (v : Value) (ls : List (List Int)) : Prop := ∃ vs, OwnR w lo hi eo ei v vs ls
theorem OwnR.rows {w : World} {lo hi : Nat} {eo ei : TypeId} {v : Value} {vs : List Value} {ls : List (List Int)} (h : OwnR w lo hi eo ei v vs ls) : RowsR w vs ls := ⟨h.len, fun i hi => (h.row i hi).reads⟩
theorem OwnII.reads {w : World} {lo hi : Nat} {eo ei : TypeId} {v : Value} {ls : List (List Int)} (h : OwnII w lo hi eo ei v ls) : ReadsII w v ls := by
  obtain ⟨vs, h⟩ := h
  exact ⟨vs, h.out.reads, h.rows⟩
theorem OwnR.keep {w w' : World} {lo hi : Nat} {eo ei : TypeId} {v : Value} {vs : List Value} {ls : List (List Int)} (h : OwnR w lo hi eo ei v vs ls) (hk : ∀ e v xs, OwnI w lo hi e v xs → OwnI w' lo hi e v xs) : OwnR w' lo hi eo ei v vs ls :=
  ⟨hk _ _ _ h.out, h.len, fun i hi => hk _ _ _ (h.row i hi), h.apart, h.outer⟩
theorem OwnII.below {w w' : World} {lo hi : Nat} {eo ei : TypeId} {v : Value} {ls : List (List Int)} (h : OwnII w lo hi eo ei v ls) (hb : Below w.heap.size w w') : OwnII w' lo hi eo ei v ls := by
  obtain ⟨vs, h⟩ := h
  exact ⟨vs, h.keep fun _ _ _ k => k.below hb⟩
theorem OwnII.alloc {w : World} {lo hi : Nat} {eo ei : TypeId} {v : Value} {ls : List (List Int)} (h : OwnII w lo hi eo ei v ls) (o : Obj) : OwnII (w.alloc o) lo hi eo ei v ls := h.below ((Below.refl _ _).alloc (Nat.le_refl _) o)
theorem OwnII.gri {w w' : World} {lo hi lo' hi' : Nat} {eo ei : TypeId} {v : Value} {ls : List (List Int)} (h : OwnII w lo' hi' eo ei v ls) (hg : GrI w w' lo hi) (hd : hi' ≤ lo ∨ hi ≤ lo') : OwnII w' lo' hi' eo ei v ls := by
  obtain ⟨vs, h⟩ := h
  exact ⟨vs, h.keep fun _ _ _ k => k.gri hg hd⟩
theorem OwnI.lowerR {w : World} {lo lo' hi hi' : Nat} {e : TypeId} {v : Value} {xs : List Value} (h : OwnI w lo hi e v xs) (hl : lo' ≤ lo) (hh : hi ≤ hi') : OwnI w lo' hi' e v xs := ⟨h.own.mono hl, fun k hk => by have := h.top k hk; omega⟩
theorem OwnII.widen {w : World} {lo lo' hi hi' : Nat} {eo ei : TypeId} {v : Value} {ls : List (List Int)} (h : OwnII w lo hi eo ei v ls) (hl : lo' ≤ lo) (hh : hi ≤ hi') : OwnII w lo' hi' eo ei v ls := by
  obtain ⟨vs, h⟩ := h
  exact ⟨vs, h.out.lowerR hl hh, h.len, fun i hi => (h.row i hi).lowerR hl hh, h.apart, h.outer⟩
theorem OwnII.lower {w : World} {lo lo' hi : Nat} {eo ei : TypeId} {v : Value} {ls : List (List Int)} (h : OwnII w lo hi eo ei v ls) (hl : lo' ≤ lo) : OwnII w lo' hi eo ei v ls := h.widen hl (Nat.le_refl _)
theorem OwnII.form {w : World} {lo hi : Nat} {eo ei : TypeId} {v : Value} {ls : List (List Int)} (h : OwnII w lo hi eo ei v ls) : ∃ a n c, v = .slice a n c := by
  obtain ⟨vs, h⟩ := h
  exact h.out.form
theorem OwnII.form3 {w : World} {lo hi : Nat} {eo ei : TypeId} {v : Value} {ls : List (List Int)} (h : OwnII w lo hi eo ei v ls) : ∃ a n c, v = .slice a n c := h.form
theorem OwnI.blk_lt {w : World} {lo hi : Nat} {e : TypeId} {v : Value} {xs : List Value} (h : OwnI w lo hi e v xs) {k : Nat} (hk : blk v = some k) : lo ≤ k ∧ k < hi := ⟨(h.own.blk_lt hk).1, h.top k hk⟩

/-- a change inside one interval as part of a larger one -/
theorem GrI.widen {w w' : World} {lo hi lo' hi' : Nat} (h : GrI w w' lo hi) (hl : lo' ≤ lo) (hh : hi ≤ hi') : GrI w w' lo' hi' := ⟨h.os, h.tape, h.output, h.size, fun k hk hd => h.block k hk (by omega)⟩
theorem GrI.refl (w : World) (lo hi : Nat) : GrI w w lo hi := ⟨rfl, rfl, rfl, Nat.le_refl _, fun _ _ _ => rfl⟩
theorem GrI.trans {a b c : World} {lo hi : Nat} (h : GrI a b lo hi) (k : GrI b c lo hi) : GrI a c lo hi :=
  ⟨k.os.trans h.os, k.tape.trans h.tape, k.output.trans h.output, Nat.le_trans h.size k.size, fun i hi hd => (k.block i (Nat.lt_of_lt_of_le hi h.size) hd).trans (h.block i hi hd)⟩
theorem GrI.ofBelow {w w' : World} (h : Below w.heap.size w w') (lo hi : Nat) : GrI w w' lo hi := ⟨h.os, h.tape, h.output, h.size, fun k hk _ => h.block k hk⟩
theorem GrI.set {w w' : World} {lo hi : Nat} (h : GrI w w' lo hi) {a : Addr} (h1 : lo ≤ a.block) (h2 : a.block < hi) (u : Value) : GrI w (w'.setCell a u) lo hi :=
  ⟨h.os, h.tape, h.output, by simpa [World.setCell] using h.size, fun k hk hd => (Below.heap_setCell _ _ _ _ (by omega)).trans (h.block k hk hd)⟩
theorem GrI.drewN {w w' : World} {lo hi : Nat} (h : GrI w w' lo hi) (n : Nat) : GrI w (w'.drewN n) lo hi := ⟨h.os, h.tape, h.output, h.size, h.block⟩
theorem GrI.reads {w w' : World} {lo hi : Nat} (hg : GrI w w' lo hi) {v : Value} {xs : List Value} (h : Reads w v xs) (hd : ∀ k, blk v = some k → k < lo ∨ hi ≤ k) : Reads w' v xs := h.keep fun k hk hlt => hg.block k hlt (hd k hk)

/-- one row changes in place -/
theorem OwnR.setRow {w w' : World} {lo hi : Nat} {eo ei : TypeId} {v : Value} {vs : List Value} {ls : List (List Int)} (h : OwnR w lo hi eo ei v vs ls) {i : Nat} (hi' : i < ls.length) {l : List Int} (ho : Own w' lo ei (vat vs i) (ints l)) (hg : w.grownBy w' (blk (vat vs i))) :
    OwnR w' lo hi eo ei v vs (ls.set i l) ∧ GrI w w' lo hi := by
  have hrat : ∀ j, j < ls.length → rat (ls.set i l) j = if i = j then l else rat ls j := by
    intro j hj
    unfold rat
    rw [List.getElem?_set]
    by_cases e : i = j
    · subst e; simp [hj]
    · simp [e]
  refine ⟨⟨⟨h.out.own.grown hg (fun k hk e => h.outer i hi' k e hk.symm), h.out.top⟩, by simpa using h.len, ?_, fun a b hab hb => h.apart a b hab (by simpa using hb), fun a ha => h.outer a (by simpa using ha)⟩, GrI.of (h.row i hi') hg⟩
  intro j hj
  rw [List.length_set] at hj
  rw [hrat j hj]
  by_cases e : i = j
  · subst e; rw [if_pos rfl]; exact ⟨ho, (h.row i hi').top⟩
  · rw [if_neg e]
    refine ⟨(h.row j hj).own.grown hg (fun k hk e2 => ?_), (h.row j hj).top⟩
    rcases Nat.lt_or_gt_of_ne e with h1 | h1
    · exact h.apart i j h1 hj k e2 hk.symm
    · exact h.apart j i h1 hi' k hk e2.symm

/-- the marks of the rows, one row after the other -/
def marksL : List (List Int) → Int → List (List Int)
  | [], _ => []
  | l :: ls, q => marks l.length q :: marksL ls (q + l.length)
@[simp] theorem length_marksL (ls : List (List Int)) (q : Int) : (marksL ls q).length = ls.length := by
  induction ls generalizing q with
  | nil => rfl
  | cons l ls ih => simp [marksL, ih]
theorem rat_marksL {ls : List (List Int)} (q : Int) {k : Nat} (h : k < ls.length) : rat (marksL ls q) k = marks (rat ls k).length (q + tot (ls.take k)) := by
  induction ls generalizing q k with
  | nil => simp at h
  | cons l ls ih =>
    cases k with
    | zero => simp [rat, marksL, tot_nil]
    | succ k =>
      have := ih (q + l.length) (k := k) (by simpa using h)
      show rat (marksL ls (q + l.length)) k = _
      rw [this, List.take_succ_cons, tot_cons]
      show marks (rat ls k).length _ = marks (rat ls k).length _
      congr 1; omega
theorem tot_marksL (ls : List (List Int)) (q : Int) : tot (marksL ls q) = tot ls := by
  induction ls generalizing q with
  | nil => rfl
  | cons l ls ih => rw [marksL, tot_cons, tot_cons, ih]; simp
theorem mark_rows {ls : List (List Int)} (q : Int) {k : Nat} (h : k < ls.length) : ((marksL ls q).take k ++ ls.drop k).set k (marks (rat ls k).length (q + tot (ls.take k))) = (marksL ls q).take (k + 1) ++ ls.drop (k + 1) := by
  have hk : ((marksL ls q).take k).length = k := by simp; omega
  rw [List.set_append_right _ _ (by omega), hk, Nat.sub_self, List.drop_eq_getElem_cons h, List.set_cons_zero, take_rat (by simpa using h), rat_marksL q h]
  simp
theorem rat_mid {ls : List (List Int)} (q : Int) {k : Nat} (h : k < ls.length) : rat ((marksL ls q).take k ++ ls.drop k) k = rat ls k := by
  have hk : ((marksL ls q).take k).length = k := by simp; omega
  unfold rat
  rw [List.getElem?_append_right (by omega), hk, Nat.sub_self, List.getElem?_drop, Nat.add_zero]

end Go.Proofs.YtkgdbobhppmaiaaDoor

namespace Go.Proofs.YtkgdbobhppmaiaaDoor
open Go.RowKit

theorem sliceII : Tryd.prog.underlying 101 = some (.slice 35) := by kernel_rfl
theorem sizeSI : (sizeOf 35).run Tryd.prog = fun w => .ok 1 w := by funext w; kernel_rfl
theorem infoSI : (Tryd.prog.info? 35).map (fun i => (i.zero, i.size, i.bytes)) = some (some (.slice none 0 0), 1, 24) := by kernel_rfl


set_option maxRecDepth 100000 in
set_option maxHeartbeats 1000000 in
/-- the comparison, quiet -/
theorem eqIq (v u : Value) (l m : List Int) (w : World) (h : Reads w v (ints l)) (h' : Reads w u (ints m)) :
    Calls Tryd.prog 64 #[v, u] w fun e w' => e = .returned (.bool (decide (l = m))) ∧ ∃ q, w' = w.drewN q := by
  have hs := h.small
  have hs' := h'.small
  simp only [length_ints] at hs hs'
  have hlen := h.len (P := Tryd.prog) 35 3 ⟨_, sliceI⟩
  have hlen' := h'.len (P := Tryd.prog) 35 3 ⟨_, sliceI⟩
  simp only [length_ints] at hlen hlen'
  by_cases hne : l.length = m.length
  · have hb : ((l.length : Int) != (m.length : Int)) = false := by simp [hne]
    go_enter Tryd.func64, Tryd.ntmps64
    go_wp2_with fail
    go_loopw [5] (fun i wr => ∃ (k q : Nat), k ≤ l.length ∧ i = .int .i64 k ∧ (∀ j, j < k → nth l j = nth m j) ∧ wr = w.drewN q) (fun i _ => l.length - (intOf i).toNat)
    case atStart =>
      exact ⟨0, 0, by omega, rfl, by omega, rfl⟩
    case round =>
      obtain ⟨k, q, hk, rfl, heq, rfl⟩ := hrel
      by_cases hlt : k < l.length
      · have hltm : k < m.length := by omega
        have hi := h.idx 35 sliceI sizeI .i64 k (by omega) (by simpa using hlt)
        have hi2 := h'.idx 35 sliceI sizeI .i64 k (by omega) (by simpa using hltm)
        simp only [Int.toNat_natCast] at hi hi2
        have hc := h.int hlt
        have hc2 := h'.int hltm
        clear hne
        go_wp2_with fail
        go_quiet (fail)
        go_wp2_with fail
        · go_ret
          have hx := ne_nth ‹_›
          exact ⟨by simp [hx], _, World.drewN_drewN ..⟩
        · go_roundw
          case rel => exact ⟨k + 1, _, by omega, by go_num, forall_snoc heq (eq_nth ‹_›), rfl⟩
          case measure => simp [intOf]; omega
      · obtain rfl : k = l.length := by omega
        have hx : l = m := ext_nth hne heq
        clear hne
        go_wp2_with fail
        go_ret
        exact ⟨by simp [hx], _, rfl⟩
  · have hx : l ≠ m := fun e => hne (by rw [e])
    have hb : ((l.length : Int) != (m.length : Int)) = true := by rw [bne_iff_ne]; omega
    clear hne
    go_enter Tryd.func64, Tryd.ntmps64
    go_wp2_with fail
    go_ret
    exact ⟨by simp [hx], 0, rfl⟩


theorem ext_rat {a b : List (List Int)} (hl : a.length = b.length) (h : ∀ j, j < a.length → rat a j = rat b j) : a = b := by
  apply List.ext_getElem?
  intro j
  by_cases hj : j < a.length
  · rw [rat_of hj, rat_of (by omega), h j hj]
  · rw [List.getElem?_eq_none (by omega), List.getElem?_eq_none (by omega)]

/-- a callee that only draws, inside a region that draws -/
theorem quietQ {P : Program} {f : FuncId} {args : Array Value} {w : World} {n : Nat} {v : Value}
    (h : Calls P f args (w.drewN n) fun e w' => e = .returned v ∧ ∃ q, w' = (w.drewN n).drewN q) : Calls P f args (w.drewN n) fun e w'' => e = .returned v ∧ ∃ m, w'' = w.drewN m :=
  h.mono fun _ _ ⟨he, q, hq⟩ => ⟨he, n + q, by rw [hq, World.drewN_drewN]⟩

/-- what is left of a size behind rows -/
def szNN (ls : List (List Int)) (left : Int) : Int := if left - (tot ls + ls.length) < 0 then -1 else left - (tot ls + ls.length)
theorem szNN_yes {ls : List (List Int)} {q : Int} (h : ¬ q - (tot ls + ls.length) < 0) : szNN ls q = q - (tot ls + ls.length) := by simp [szNN, h]
theorem szNN_no {ls : List (List Int)} {q : Int} (h : q - (tot ls + ls.length) < 0) : szNN ls q = -1 := by simp [szNN, h]

/-- rows that the call has made so far, the outer slice among them filled up with nils -/
structure MadeR (w : World) (g : Nat) (v : Value) (vs : List Value) (ls : List (List Int)) (n : Nat) : Prop where
  out : Own w g 35 v (vs ++ List.replicate (n - vs.length) (.slice none 0 0))
  blk : blk v = some g
  len : vs.length = ls.length
  row : ∀ i, i < ls.length → Own w (g + 1) 2 (vat vs i) (ints (rat ls i))
  apart : ∀ i j, i < j → j < ls.length → Apart (vat vs i) (vat vs j)
theorem vat_snoc {vs : List Value} {v : Value} {i : Nat} (h : i < vs.length) : vat (vs ++ [v]) i = vat vs i := by unfold vat; rw [List.getElem?_append_left h]
theorem vat_last (vs : List Value) (v : Value) : vat (vs ++ [v]) vs.length = v := by simp [vat]
theorem rat_snoc {ls : List (List Int)} {l : List Int} {i : Nat} (h : i < ls.length) : rat (ls ++ [l]) i = rat ls i := by unfold rat; rw [List.getElem?_append_left h]
theorem rat_last (ls : List (List Int)) (l : List Int) : rat (ls ++ [l]) ls.length = l := by simp [rat]
theorem MadeR.step {w w' : World} {g : Nat} {v : Value} {vs : List Value} {ls : List (List Int)} {n : Nat} (h : MadeR w g v vs ls n) (hk : vs.length < n) (hb : Below w.heap.size w w') {u : Value} {l : List Int} (hu : Own w' w.heap.size 2 u (ints l)) :
    MadeR (w'.setCell (adr v vs.length) u) g v (vs ++ [u]) (ls ++ [l]) n := by
  have hg : g < w.heap.size := (h.out.blk_lt h.blk).2
  have hlen : (vs ++ List.replicate (n - vs.length) (.slice none 0 0 : Value)).length = n := by simp; omega
  have hab := (h.out.below hb).adr_blk (i := vs.length) (by rw [hlen]; exact hk)
  have hblk : (adr v vs.length).block = g := by have := hab.1; rw [h.blk] at this; injection this with e; exact e.symm
  have ho := (h.out.below hb).set (i := vs.length) (by rw [hlen]; exact hk) u
  have hset : ∀ {x : Value} {xs : List Value}, Own w' (g + 1) 2 x xs → Own (w'.setCell (adr v vs.length) u) (g + 1) 2 x xs := fun hx =>
    hx.keep fun k hk2 _ => Below.heap_setCell _ _ _ _ (fun e => by have := (hx.blk_lt hk2).1; omega)
  refine ⟨?_, h.blk, by simp [h.len], ?_, ?_⟩
  · rw [List.set_append_right _ _ (Nat.le_refl _), Nat.sub_self, show n - vs.length = (n - (vs ++ [u]).length) + 1 by simp; omega, List.replicate_succ, List.set_cons_zero] at ho
    simpa using ho
  · intro i hi
    by_cases e : i < ls.length
    · rw [vat_snoc (by rw [h.len]; exact e), rat_snoc e]
      exact hset ((h.row i e).below hb)
    · have : i = ls.length := by simp at hi; omega
      subst this
      rw [rat_last, show ls.length = vs.length from h.len.symm, vat_last]
      exact hset (hu.mono (by omega))
  · intro i j hij hj
    by_cases e : j < ls.length
    · rw [vat_snoc (by rw [h.len]; omega), vat_snoc (by rw [h.len]; exact e)]
      exact h.apart i j hij e
    · have : j = ls.length := by simp at hj; omega
      subst this
      rw [vat_snoc (by rw [h.len]; exact hij), show ls.length = vs.length from h.len.symm, vat_last]
      exact apart_new (h.row i (by omega)) hu

end Go.Proofs.YtkgdbobhppmaiaaDoor
