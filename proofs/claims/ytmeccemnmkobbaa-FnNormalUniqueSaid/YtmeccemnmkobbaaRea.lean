/- Contracts: letters put behind, lists of permutations that are made left-weighted, in the reference. -/
import Derived.Test.YtmeccemnmkobbaaSt
import Derived.Test.YtmeccemnmkobbaaNob
import Derived.Test.YtmeccemnmkobbaaRwb
import Derived.Test.YtmeccemnmkobbaaBrd
import Derived.Deep.RegionHeld3
import Derived.Deep.LoopGhost
namespace Go.Proofs.Ytmeccemnmkobbaa
open Go.RowKit
open Pm

theorem swv_step {l : List Int} {k : Int} {j : Nat} (hj : j < l.length) : ((l.map (swv k)).take j ++ l.drop j).set j (swv k (nth l j)) = (l.map (swv k)).take (j + 1) ++ l.drop (j + 1) := by
  have h1 : ((l.map (swv k)).take j).length = j := by simp; omega
  rw [List.set_append_right _ _ (by omega), h1, Nat.sub_self, List.drop_eq_getElem_cons hj, List.set_cons_zero, List.take_add_one, nth_of (by simpa using hj), nth_map _ hj]
  simp
theorem swv_keep {l : List Int} {k : Int} {j : Nat} (hj : j < l.length) (h1 : nth l j ≠ k - 1) (h2 : nth l j ≠ k) : (l.map (swv k)).take (j + 1) ++ l.drop (j + 1) = (l.map (swv k)).take j ++ l.drop j := by
  rw [← swv_step hj]
  have e : swv k (nth l j) = nth ((l.map (swv k)).take j ++ l.drop j) j := by
    have h3 : ((l.map (swv k)).take j).length = j := by simp; omega
    have e0 : swv k (nth l j) = nth l j := by unfold swv; rw [if_neg h1, if_neg h2]
    rw [e0]
    unfold nth
    rw [List.getElem?_append_right (by omega), h3, Nat.sub_self, List.getElem?_drop, Nat.add_zero]
  rw [e]
  have hl : j < ((l.map (swv k)).take j ++ l.drop j).length := by simp; omega
  unfold nth
  rw [List.getElem?_eq_getElem hl]
  simp

set_option maxRecDepth 100000 in
set_option maxHeartbeats 2000000 in
theorem behind_spec (k : Int) (v : Value) (l : List Int) (w : World) (h : Reads w v (ints l)) (hl : l.length ≤ 1048576) (k0 : 1 ≤ k) (k1 : k ≤ 1048576) :
    Calls Try.prog 130 #[v, .int .i64 k] w fun e w' => ∃ u, e = .returned u ∧ Own w' w.heap.size 2 u (ints (l.map (swv k))) ∧ Below w.heap.size w w' := by
  have hs := h.small
  have hlen := h.len (P := Try.prog) 32 3 ⟨_, sliceI⟩
  simp only [length_ints] at hs hlen
  go_enter Try.func130, Try.ntmps130
  go_wp2_with fail
  refine (own_copy _ _ _ h hl).mono ?_
  rintro e w1 ⟨x, rfl, hx, hb1⟩
  go_wp2_with fail
  go_loopw [6] (fun i wr => ∃ j : Nat, j ≤ l.length ∧ i = .int .i64 j ∧ Own wr w.heap.size 2 x (ints ((l.map (swv k)).take j ++ l.drop j)) ∧ Below w.heap.size w wr) (fun i _ => l.length - (intOf i).toNat)
  case atStart => exact ⟨0, by omega, rfl, by simpa using hx, hb1⟩
  case round =>
    clear hx hb1
    obtain ⟨j, hj, rfl, hown, hb⟩ := hrel
    have hll : ((l.map (swv k)).take j ++ l.drop j).length = l.length := by simp; omega
    by_cases hlt : j < l.length
    · have hi := h.idx 32 sliceI sizeI .i64 j (by omega) (by simpa using hlt)
      have hi2 := hown.reads.idx 32 sliceI sizeI .i64 j (by omega) (by simp; omega)
      simp only [Int.toNat_natCast] at hi hi2
      have hc := (h.below hb).int hlt
      have hd := hown.reads.cell j _ (ints_at (by omega))
      have hf := hown.frozen (i := j) (by simp; omega)
      have hab := hown.adr_blk (i := j) (by simp; omega)
      have hvb : (adr v j).block < w.heap.size := h.spot j _ (h.int hlt)
      have hnv : adr x j ≠ adr v j := fun e => by have := hab.2.1; rw [e] at this; omega
      have hst := hown.set (i := j) (by simp; omega) (.int .i64 (swv k (nth l j)))
      rw [ints_set, swv_step hlt] at hst
      by_cases e1 : nth l j = k - 1
      · have es : swv k (nth l j) = k := by unfold swv; rw [if_pos e1]
        rw [es] at hst
        have hc' := (World.cell?_setCell_other wr (adr x j) (adr v j) (.int .i64 k) hnv).trans hc
        rw [e1] at hc hc'
        have n1 : (k - 1 == k) = false := by rw [beq_eq_false_iff_ne]; omega
        have n2 : (k - 1 == k - 1) = true := by simp
        have hst' := hid hst
        clear hst es e1 hll hnv hvb
        go_wp2_with fail
        go_roundw
        case rel => exact ⟨j + 1, by omega, by go_num, hst'.out, hb.setCell hab.2.1 _⟩
        case measure => simp [intOf]; omega
      · by_cases e2 : nth l j = k
        · have es : swv k (nth l j) = k - 1 := by unfold swv; rw [if_neg e1, if_pos e2]
          rw [es] at hst
          rw [e2] at hc
          have n1 : (k == k - 1) = false := by rw [beq_eq_false_iff_ne]; omega
          have n2 : (k == k) = true := by simp
          have hst' := hid hst
          clear hst es e1 e2 hll hnv hvb
          go_wp2_with fail
          go_roundw
          case rel => exact ⟨j + 1, by omega, by go_num, hst'.out, hb.setCell hab.2.1 _⟩
          case measure => simp [intOf]; omega
        · have hk := hid (swv_keep (l := l) (k := k) hlt e1 e2)
          have n1 : (nth l j == k - 1) = false := by rw [beq_eq_false_iff_ne]; exact e1
          have n2 : (nth l j == k) = false := by rw [beq_eq_false_iff_ne]; exact e2
          have hown' := hid hown
          clear hst e1 e2 hll hnv hvb hown
          go_wp2_with fail
          go_roundw
          case rel => exact ⟨j + 1, by omega, by go_num, by rw [hk.out]; exact hown'.out, hb⟩
          case measure => simp [intOf]; omega
    · obtain rfl : j = l.length := by omega
      rw [List.take_of_length_le (by simp), List.drop_of_length_le (Nat.le_refl _), List.append_nil] at hown
      go_wp2_with fail
      go_ret
      exact ⟨_, rfl, hown, hb⟩

set_option maxRecDepth 100000 in
set_option maxHeartbeats 1000000 in
theorem is_spec (v u : Value) (l m : List Int) (w : World) (h : Reads w v (ints l)) (h' : Reads w u (ints m)) :
    Calls Try.prog 108 #[v, u] w fun e w' => e = .returned (.bool (decide (l = m))) ∧ Below w.heap.size w w' := by
  go_enter Try.func108, Try.ntmps108
  go_wp2_with fail
  refine (l00same_spec _ _ _ _ _ h h').mono ?_
  rintro e w1 ⟨rfl, hs⟩
  go_wp2_with fail
  go_ret
  exact ⟨rfl, hs⟩

/-- rows that can be read, all in blocks from lo on -/
structure RowsB (w : World) (lo : Nat) (vs : List Value) (ls : List (List Int)) : Prop where
  rows : RowsR w vs ls
  blks : ∀ i, i < ls.length → ∀ k, blk (vat vs i) = some k → lo ≤ k ∧ k < w.heap.size
theorem RowsB.below {w w' : World} {lo : Nat} {vs : List Value} {ls : List (List Int)} (h : RowsB w lo vs ls) (hb : Below w.heap.size w w') : RowsB w' lo vs ls :=
  ⟨h.rows.below hb, fun i hi k hk => by have := h.blks i hi k hk; have := hb.size; omega⟩
theorem vat_set {vs : List Value} {i : Nat} (h : i < vs.length) (u : Value) (j : Nat) : vat (vs.set i u) j = if i = j then u else vat vs j := by
  unfold vat; rw [List.getElem?_set]
  by_cases e : i = j
  · subst e; simp [h]
  · simp [e]
theorem rat_set {ls : List (List Int)} {i : Nat} (h : i < ls.length) (l : List Int) (j : Nat) : rat (ls.set i l) j = if i = j then l else rat ls j := by
  unfold rat; rw [List.getElem?_set]
  by_cases e : i = j
  · subst e; simp [h]
  · simp [e]
/-- a row of the call's own outer slice is replaced -/
theorem RowsB.set {w w' : World} {lo B : Nat} {eo ei : TypeId} {f : Value} {vs : List Value} {ls : List (List Int)} (h : RowsB w lo vs ls) (hf : Own w B eo f vs) (hap : ∀ i, i < ls.length → Apart (vat vs i) f) (hb : Below w.heap.size w w') {i : Nat} (hi : i < ls.length) {u : Value} {l : List Int}
    (hu : Own w' w.heap.size ei u (ints l)) (hlo : lo ≤ w.heap.size) :
    Own (w'.setCell (adr f i) u) B eo f (vs.set i u) ∧ RowsB (w'.setCell (adr f i) u) lo (vs.set i u) (ls.set i l) ∧ (∀ j, j < (ls.set i l).length → Apart (vat (vs.set i u) j) f) := by
  have hvl := h.rows.len
  have hiv : i < vs.length := by omega
  have hfb := (hf.below hb).adr_blk hiv
  have hfw := (hf.adr_blk hiv)
  have hapu : Apart u f := apart_new' hf hu
  have hkeep : ∀ {v : Value} {xs : List Value}, Reads w' v xs → Apart v f → Reads (w'.setCell (adr f i) u) v xs := fun hr ha =>
    hr.keep fun k hk _ => Below.heap_setCell _ _ _ _ (fun e => ha k hk (by rw [e]; exact hfw.1.symm))
  have hsz : (w'.setCell (adr f i) u).heap.size = w'.heap.size := by simp [World.setCell]
  refine ⟨(hf.below hb).set hiv u, ⟨⟨by simpa using hvl, fun j hj => ?_⟩, fun j hj k hk => ?_⟩, fun j hj => ?_⟩
  · rw [List.length_set] at hj
    rw [vat_set hiv, rat_set hi]
    by_cases e : i = j
    · rw [if_pos e, if_pos e]; exact hkeep hu.reads hapu
    · rw [if_neg e, if_neg e]; exact hkeep ((h.rows.row j hj).below hb) (hap j hj)
  · rw [List.length_set] at hj
    rw [vat_set hiv] at hk
    rw [hsz]
    by_cases e : i = j
    · rw [if_pos e] at hk; have := hu.blk_lt hk; omega
    · rw [if_neg e] at hk; have := h.blks j hj k hk; have := hb.size; omega
  · rw [List.length_set] at hj
    rw [vat_set hiv]
    by_cases e : i = j
    · rw [if_pos e]; exact hapu
    · rw [if_neg e]; exact hap j hj


end Go.Proofs.Ytmeccemnmkobbaa
