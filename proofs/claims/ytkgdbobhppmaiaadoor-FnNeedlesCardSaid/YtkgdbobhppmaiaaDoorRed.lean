/- Contracts: the normal form of a word, in the reference. -/
import Derived.Test.YtkgdbobhppmaiaaDoorRec
import Derived.Test.YtkgdbobhppmaiaaDoorBre
namespace Go.Proofs.YtkgdbobhppmaiaaDoor
open Go.RowKit
open Pm

/-- the call's own slice o of rows that can be read, in blocks from lo on, none of them o's own -/
structure RowsO (w : World) (lo B : Nat) (o : Value) (us : List Value) (ls : List (List Int)) : Prop where
  own : Own w B 35 o us
  rows : RowsB w lo us ls
  ap : ∀ i, i < ls.length → Apart (vat us i) o
theorem RowsO.below {w w' : World} {lo B : Nat} {o : Value} {us : List Value} {ls : List (List Int)} (h : RowsO w lo B o us ls) (hb : Below w.heap.size w w') : RowsO w' lo B o us ls := ⟨h.own.below hb, h.rows.below hb, h.ap⟩
theorem RowsO.lower {w : World} {lo lo' B B' : Nat} {o : Value} {us : List Value} {ls : List (List Int)} (h : RowsO w lo B o us ls) (h1 : lo' ≤ lo) (h2 : B' ≤ B) : RowsO w lo' B' o us ls := ⟨h.own.mono h2, ⟨h.rows.rows, fun i hi k hk => by have := h.rows.blks i hi k hk; omega⟩, h.ap⟩
theorem RowsO.empty (w : World) (lo B : Nat) (hB : B ≤ w.heap.size) : RowsO (w.alloc (.cells #[] 35)) lo B (.slice (some ⟨w.heap.size, 0, none⟩) 0 0) [] [] :=
  ⟨own_empty w _ hB, ⟨⟨rfl, fun i hi => absurd hi (by simp)⟩, fun i hi => absurd hi (by simp)⟩, fun i hi => absurd hi (by simp)⟩
theorem RowsO.len {w : World} {lo B : Nat} {o : Value} {us : List Value} {ls : List (List Int)} (h : RowsO w lo B o us ls) : us.length = ls.length := h.rows.rows.len
theorem Bx.belowB {w w' : World} {g B : Nat} {cs : List Value} (h : Bx w g cs) (hb : Below B w w') (hg : g < B) : Bx w' g cs := h.keep (hb.block g hg)
theorem RowsB.set_block {w : World} {lo : Nat} {us : List Value} {ls : List (List Int)} (h : RowsB w lo us ls) {g : Nat} (h1 : g < lo) (i : Nat) (x : Value) : RowsB (w.setCell ⟨g, i, none⟩ x) lo us ls :=
  ⟨⟨h.rows.len, fun j hj => (h.rows.row j hj).keep fun k hk _ => Below.heap_setCell _ _ _ _ (fun e => by have := h.blks j hj k hk; simp at e; omega)⟩, fun j hj k hk => by have := h.blks j hj k hk; simpa [World.setCell] using this⟩
theorem RowsB.lower {w : World} {lo lo' : Nat} {us : List Value} {ls : List (List Int)} (h : RowsB w lo us ls) (h1 : lo' ≤ lo) : RowsB w lo' us ls := ⟨h.rows, fun i hi k hk => by have := h.blks i hi k hk; omega⟩
theorem RowsO.set_block {w : World} {lo B : Nat} {o : Value} {us : List Value} {ls : List (List Int)} (h : RowsO w lo B o us ls) {g : Nat} (h1 : g < lo) (h2 : g < B) (i : Nat) (x : Value) : RowsO (w.setCell ⟨g, i, none⟩ x) lo B o us ls :=
  ⟨h.own.set_block h2 i x, ⟨⟨h.rows.rows.len, fun j hj => (h.rows.rows.row j hj).keep fun k hk _ => Below.heap_setCell _ _ _ _ (fun e => by have := h.rows.blks j hj k hk; simp at e; omega)⟩, fun j hj k hk => by have := h.rows.blks j hj k hk; simpa [World.setCell] using this⟩, h.ap⟩
/-- a row is put behind -/
theorem RowsO.app {w : World} {lo B : Nat} {o u : Value} {us : List Value} {ls : List (List Int)} {l : List Int} (h : RowsO w lo B o us ls) (hu : Reads w u (ints l)) (hk : ∀ k, blk u = some k → lo ≤ k ∧ k < w.heap.size) (hap : Apart u o) (h1 : u.oneCell' = true) (hB : B ≤ w.heap.size) (hl : us.length ≤ 1048576) :
    ∃ v' w', (Builtin.append_ #[101, 101] 101 #[o, .slice (some ⟨w.heap.size, 0, none⟩) 1 1]).run Tryd.prog (w.alloc (.cells #[u] 35)) = .ok v' w' ∧ RowsO w' lo B v' (us ++ [u]) (ls ++ [l]) ∧ Below B w w' := by
  have ha : Below w.heap.size w (w.alloc (.cells #[u] 35)) := (Below.refl _ _).alloc (Nat.le_refl _) _
  have hA := h.below ha
  obtain ⟨v', w', hr, ho, hg, hst⟩ := app_runF (ty := 101) sliceII infoSI rfl hA.own (reads_one w u 35) (by simpa using h1) (by simp; omega) (by simp; omega) (by decide)
  have hbw : Below B w w' := (ha.mono hB).grown hg (by simp; omega) (fun k hk => (hA.own.blk_lt hk).1)
  have hsz := hbw.size
  have hkeep : ∀ {v : Value} {xs : List Value}, Reads w v xs → Apart v o → Reads w' v xs := fun {v xs} hr ha2 =>
    (hr.below ha).keep fun k hk hlt => hg.block k hlt (fun e => ha2 k hk e)
  have hst' : ∀ {v : Value}, (∀ k, blk v = some k → k < w.heap.size) → Apart v o → Apart v v' := fun {v} hv ha2 k hk e => by
    rcases hst k e.symm with h1 | h1
    · exact ha2 k hk h1.symm
    · have := hv k hk; simp at h1; omega
  have hl := h.len
  refine ⟨v', w', hr, ⟨ho, ⟨⟨by simp [hl], fun i hi => ?_⟩, fun i hi k hk' => ?_⟩, fun i hi => ?_⟩, hbw⟩
  · rw [List.length_append, List.length_singleton] at hi
    by_cases e : i < ls.length
    · rw [vat_snoc (by omega), rat_snoc e]; exact hkeep (h.rows.rows.row i e) (h.ap i e)
    · obtain rfl : i = ls.length := by omega
      rw [rat_last, ← hl, vat_last]; exact hkeep hu hap
  · rw [List.length_append, List.length_singleton] at hi
    by_cases e : i < ls.length
    · rw [vat_snoc (by omega)] at hk'; have := h.rows.blks i e k hk'; omega
    · obtain rfl : i = ls.length := by omega
      rw [← hl, vat_last] at hk'; have := hk k hk'; omega
  · rw [List.length_append, List.length_singleton] at hi
    by_cases e : i < ls.length
    · rw [vat_snoc (by omega)]; exact hst' (fun k hk => (h.rows.blks i e k hk).2) (h.ap i e)
    · obtain rfl : i = ls.length := by omega
      rw [← hl, vat_last]; exact hst' (fun k hk' => (hk k hk').2) hap
/-- a row that the call has just made is put behind -/
theorem RowsO.new {w w1 : World} {lo B : Nat} {o u : Value} {us : List Value} {ls : List (List Int)} {l : List Int} (h : RowsO w lo B o us ls) (hb : Below w.heap.size w w1) (hu : Own w1 w.heap.size 2 u (ints l)) (hlo : lo ≤ w.heap.size) (hB : B ≤ w.heap.size) (hl : us.length ≤ 1048576) :
    ∃ v' w', (Builtin.append_ #[101, 101] 101 #[o, .slice (some ⟨w1.heap.size, 0, none⟩) 1 1]).run Tryd.prog (w1.alloc (.cells #[u] 35)) = .ok v' w' ∧ RowsO w' lo B v' (us ++ [u]) (ls ++ [l]) ∧ Below B w1 w' := by
  have hsz := hb.size
  refine (h.below hb).app hu.reads (fun k hk => by have := hu.blk_lt hk; omega) (apart_new' h.own hu) ?_ (by omega) hl
  obtain ⟨a, c, e, -⟩ := hu.reads.form
  rw [e]; rfl
theorem take_pat {n : Nat} {L : List (Pm n)} {j : Nat} (h : j < L.length) : L.take (j + 1) = L.take j ++ [pat L j] := by rw [List.take_add_one, pat_of h]; rfl

theorem inv_sg {n k : Nat} (h : k < n) : (gar n).inv (sg n k h) = sg n k h := (gar n).mul_left (a := sg n k h) (by rw [(gar n).mul_inv]; exact (sg_sg h).symm)
theorem stp_up {n : Nat} {k : Int} (h0 : 0 < k) (h1 : k.toNat < n) (x : Gar.St (Pm n)) : (gar n).stp x (ltr n k) = (x.1, x.2 ++ [mul (one n) (sg n k.toNat h1)]) := by
  have e1 : ltr n k = (true, sg n k.toNat h1) := by
    unfold ltr
    rw [show k.natAbs = k.toNat by omega, sgT_eq h1]; simp [h0]
  rw [e1, Gar.stp_pos]
  congr 2
  exact congrArg (fun y => [y]) ((gar n).one_mul _).symm
theorem stp_down {n m : Nat} (h0 : 0 < m) (h1 : m < n) (x : Gar.St (Pm n)) : (gar n).stp x (ltr n (-(m : Int))) = (x.1 - 1, x.2.map (gar n).tau ++ [mul (top n) (sg n m h1)]) := by
  have e1 : ltr n (-(m : Int)) = (false, sg n m h1) := by
    unfold ltr
    rw [show (-(m : Int)).natAbs = m by omega, sgT_eq h1]; simp
  rw [e1, Gar.stp_neg, inv_sg]; rfl
/-- the state behind the first letters -/
def stTo (n : Nat) (l : List Int) (j : Nat) : Gar.St (Pm n) := (gar n).raw (lts n (l.take j))
theorem stTo_zero (n : Nat) (l : List Int) : stTo n l 0 = (0, []) := rfl
theorem stTo_succ {n : Nat} {l : List Int} {j : Nat} (h : j < l.length) : stTo n l (j + 1) = (gar n).stp (stTo n l j) (ltr n (nth l j)) := by
  unfold stTo
  rw [List.take_add_one, nth_of h, Option.toList_some, lts_append, Gar.raw_append]; rfl
theorem stTo_len {n : Nat} (l : List Int) (j : Nat) : (stTo n l j).2.length ≤ j ∧ -(j : Int) ≤ (stTo n l j).1 ∧ (stTo n l j).1 ≤ 0 := by
  induction j with
  | zero => simp [stTo_zero]
  | succ j ih =>
    by_cases h : j < l.length
    · rw [stTo_succ h]
      unfold Gar.stp
      split
      · simp; omega
      · simp; omega
    · have e : stTo n l (j + 1) = stTo n l j := by unfold stTo; rw [List.take_of_length_le (by omega), List.take_of_length_le (by omega)]
      rw [e]; omega
theorem nfW_of {n : Nat} (l : List Int) : nfW n l = ((stTo n l l.length).1 + ((gar n).NF (0, (stTo n l l.length).2)).1, ((gar n).NF (0, (stTo n l l.length).2)).2) := by
  have e : (gar n).raw (lts n l) = stTo n l l.length := by unfold stTo; rw [List.take_length]
  unfold nfW
  rw [e]
  have := (gar n).NF_up (stTo n l l.length).1 0 (stTo n l l.length).2
  rw [show (0 : Int) + (stTo n l l.length).1 = (stTo n l l.length).1 by omega] at this
  show (gar n).NF ((stTo n l l.length).1, (stTo n l l.length).2) = _
  rw [this, Int.add_comm]

end Go.Proofs.YtkgdbobhppmaiaaDoor
