/- Contracts: letters put behind, lists of permutations that are made left-weighted, in the reference. -/
import Derived.Test.YtkgdbobhppmaiaaDoorSt
import Derived.Test.YtkgdbobhppmaiaaDoorNob
import Derived.Test.YtkgdbobhppmaiaaDoorRwb
import Derived.Test.YtkgdbobhppmaiaaDoorBrd
import Derived.Deep.RegionHeld3
import Derived.Deep.LoopGhost
namespace Go.Proofs.YtkgdbobhppmaiaaDoor
open Go.RowKit
open Pm

theorem swv_step {l : List Int} {k : Int} {j : Nat} (hj : j < l.length) : ((l.map (swv k)).take j ++ l.drop j).set j (swv k (nth l j)) = (l.map (swv k)).take (j + 1) ++ l.drop (j + 1) := by
  have h1 : ((l.map (swv k)).take j).length = j := by simp; omega
  rw [List.set_append_right _ _ (by omega), h1, Nat.sub_self, List.drop_eq_getElem_cons hj, List.set_cons_zero, List.take_add_one, nth_of (by simpa using hj), nth_map _ hj]
  simp
theorem swv_keep {l : List Int} {k : Int} {j : Nat} (hj : j < l.length) (h1 : nth l j ≠ k - 1) (h2 : nth l j ≠ k) : (l.map (swv k)).take (j + 1) ++ l.drop (j + 1) = (l.map (swv k)).take j ++ l.drop j := by
  rw [← swv_step hj]
  have e : swv k (nth l j) = nth ((l.map (swv k)).take j ++ l.drop j) j := by
    have h3 : ((l.map (swv k)).take j).length = j := by simp; omega
    have e0 : swv k (nth l j) = nth l j := by unfold swv; rw [if_neg h1, if_neg h2]
    rw [e0]
    unfold nth
    rw [List.getElem?_append_right (by omega), h3, Nat.sub_self, List.getElem?_drop, Nat.add_zero]
  rw [e]
  have hl : j < ((l.map (swv k)).take j ++ l.drop j).length := by simp; omega
  unfold nth
  rw [List.getElem?_eq_getElem hl]
  simp

/-- rows that can be read, all in blocks from lo on -/
structure RowsB (w : World) (lo : Nat) (vs : List Value) (ls : List (List Int)) : Prop where
  rows : RowsR w vs ls
  blks : ∀ i, i < ls.length → ∀ k, blk (vat vs i) = some k → lo ≤ k ∧ k < w.heap.size
theorem RowsB.below {w w' : World} {lo : Nat} {vs : List Value} {ls : List (List Int)} (h : RowsB w lo vs ls) (hb : Below w.heap.size w w') : RowsB w' lo vs ls :=
  ⟨h.rows.below hb, fun i hi k hk => by have := h.blks i hi k hk; have := hb.size; omega⟩
theorem vat_set {vs : List Value} {i : Nat} (h : i < vs.length) (u : Value) (j : Nat) : vat (vs.set i u) j = if i = j then u else vat vs j := by
  unfold vat; rw [List.getElem?_set]
  by_cases e : i = j
  · subst e; simp [h]
  · simp [e]
theorem rat_set {ls : List (List Int)} {i : Nat} (h : i < ls.length) (l : List Int) (j : Nat) : rat (ls.set i l) j = if i = j then l else rat ls j := by
  unfold rat; rw [List.getElem?_set]
  by_cases e : i = j
  · subst e; simp [h]
  · simp [e]
/-- a row of the call's own outer slice is replaced -/
theorem RowsB.set {w w' : World} {lo B : Nat} {eo ei : TypeId} {f : Value} {vs : List Value} {ls : List (List Int)} (h : RowsB w lo vs ls) (hf : Own w B eo f vs) (hap : ∀ i, i < ls.length → Apart (vat vs i) f) (hb : Below w.heap.size w w') {i : Nat} (hi : i < ls.length) {u : Value} {l : List Int}
    (hu : Own w' w.heap.size ei u (ints l)) (hlo : lo ≤ w.heap.size) :
    Own (w'.setCell (adr f i) u) B eo f (vs.set i u) ∧ RowsB (w'.setCell (adr f i) u) lo (vs.set i u) (ls.set i l) ∧ (∀ j, j < (ls.set i l).length → Apart (vat (vs.set i u) j) f) := by
  have hvl := h.rows.len
  have hiv : i < vs.length := by omega
  have hfb := (hf.below hb).adr_blk hiv
  have hfw := (hf.adr_blk hiv)
  have hapu : Apart u f := apart_new' hf hu
  have hkeep : ∀ {v : Value} {xs : List Value}, Reads w' v xs → Apart v f → Reads (w'.setCell (adr f i) u) v xs := fun hr ha =>
    hr.keep fun k hk _ => Below.heap_setCell _ _ _ _ (fun e => ha k hk (by rw [e]; exact hfw.1.symm))
  have hsz : (w'.setCell (adr f i) u).heap.size = w'.heap.size := by simp [World.setCell]
  refine ⟨(hf.below hb).set hiv u, ⟨⟨by simpa using hvl, fun j hj => ?_⟩, fun j hj k hk => ?_⟩, fun j hj => ?_⟩
  · rw [List.length_set] at hj
    rw [vat_set hiv, rat_set hi]
    by_cases e : i = j
    · rw [if_pos e, if_pos e]; exact hkeep hu.reads hapu
    · rw [if_neg e, if_neg e]; exact hkeep ((h.rows.row j hj).below hb) (hap j hj)
  · rw [List.length_set] at hj
    rw [vat_set hiv] at hk
    rw [hsz]
    by_cases e : i = j
    · rw [if_pos e] at hk; have := hu.blk_lt hk; omega
    · rw [if_neg e] at hk; have := h.blks j hj k hk; have := hb.size; omega
  · rw [List.length_set] at hj
    rw [vat_set hiv]
    by_cases e : i = j
    · rw [if_pos e]; exact hapu
    · rw [if_neg e]; exact hap j hj


end Go.Proofs.YtkgdbobhppmaiaaDoor
