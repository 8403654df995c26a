/- Contracts: lists of permutations are made left-weighted, in the reference. -/
import Derived.Test.YtkgdbobhppmaiaaDoorReb
namespace Go.Proofs.YtkgdbobhppmaiaaDoor
open Go.RowKit
open Pm

/-- the state of a list under way: the call's own slice f with rows -/
structure SetC {n : Nat} (w wr : World) (f : Value) (lo : Nat) (L : List (Pm n)) (vs : List Value) : Prop where
  own : Own wr w.heap.size 35 f vs
  rows : RowsB wr lo vs (vals L)
  ap : ∀ i, i < L.length → Apart (vat vs i) f
  below : Below w.heap.size w wr
theorem SetC.len {n : Nat} {w wr : World} {f : Value} {lo : Nat} {L : List (Pm n)} {vs : List Value} (h : SetC w wr f lo L vs) : vs.length = L.length := by
  have := h.rows.rows.len; simpa using this
theorem SetC.next {n : Nat} {w wr w' : World} {f : Value} {lo : Nat} {L : List (Pm n)} {vs : List Value} (h : SetC w wr f lo L vs) (hb : Below wr.heap.size wr w') : SetC w w' f lo L vs :=
  ⟨h.own.below hb, h.rows.below hb, h.ap, h.below.trans (hb.mono h.below.size)⟩
theorem SetC.row {n : Nat} {w wr : World} {f : Value} {lo : Nat} {L : List (Pm n)} {vs : List Value} (h : SetC w wr f lo L vs) {i : Nat} (hi : i < L.length) : Reads wr (vat vs i) (ints (pat L i).1) := by
  have := h.rows.rows.row i (by simpa using hi)
  rwa [rat_vals hi] at this
theorem SetC.set {n : Nat} {w wr w' : World} {f : Value} {lo : Nat} {L : List (Pm n)} {vs : List Value} (h : SetC w wr f lo L vs) (hb : Below wr.heap.size wr w') (hlo : lo ≤ w.heap.size) {i : Nat} (hi : i < L.length) {u : Value} {p : Pm n}
    (hu : Own w' wr.heap.size 2 u (ints p.1)) : SetC w (w'.setCell (adr f i) u) f lo (L.set i p) (vs.set i u) := by
  have hsz := h.below.size
  obtain ⟨a, b, c⟩ := h.rows.set h.own (fun j hj => h.ap j (by simpa using hj)) hb (i := i) (by simpa using hi) (ei := 2) hu (by omega)
  refine ⟨a, ?_, ?_, (h.below.trans (hb.mono hsz)).setCell ((h.own.adr_blk (i := i) (by rw [h.len]; exact hi)).2.1) u⟩
  · rw [vals_set]; exact b
  · intro j hj; exact c j (by simpa using hj)
theorem mid_of_one {n : Nat} {p : Pm n} (h : p = one n) : (gar n).mid p = false := by
  have e : p = (gar n).one := h
  simp [Gar.mid, e]
theorem mid_of_top {n : Nat} {p : Pm n} (h : p = top n) : (gar n).mid p = false := by
  have e : p = (gar n).top := h
  simp [Gar.mid, e]
theorem mid_of_no {n : Nat} {p : Pm n} (h : ¬ p = one n) (h2 : ¬ p = top n) : (gar n).mid p = true := by
  have e : ¬ p = (gar n).one := h
  have e2 : ¬ p = (gar n).top := h2
  simp [Gar.mid, e, e2]
theorem RowsB.snoc {w : World} {lo : Nat} {vs : List Value} {ls : List (List Int)} {v : Value} {l : List Int} (h : RowsB w lo vs ls) (hv : Reads w v (ints l)) (hb : ∀ k, blk v = some k → lo ≤ k ∧ k < w.heap.size) : RowsB w lo (vs ++ [v]) (ls ++ [l]) := by
  have hl := h.rows.len
  refine ⟨⟨by simp [hl], fun i hi => ?_⟩, fun i hi k hk => ?_⟩
  · rw [List.length_append, List.length_singleton] at hi
    by_cases e : i < ls.length
    · rw [vat_snoc (by omega), rat_snoc e]; exact h.rows.row i e
    · obtain rfl : i = ls.length := by omega
      rw [rat_last, ← hl, vat_last]; exact hv
  · rw [List.length_append, List.length_singleton] at hi
    by_cases e : i < ls.length
    · rw [vat_snoc (by omega)] at hk; exact h.blks i e k hk
    · obtain rfl : i = ls.length := by omega
      rw [← hl, vat_last] at hk; exact hb k hk
def exl {n : Nat} (L : List (Pm n)) (j : Nat) : Int := extraF (pat L j).1 (pat L (j + 1)).1
theorem Pm.small {n : Nat} (p : Pm n) : ∀ i, i < p.1.length → 0 ≤ nth p.1 i ∧ nth p.1 i < p.1.length := p.2.2.range

end Go.Proofs.YtkgdbobhppmaiaaDoor
