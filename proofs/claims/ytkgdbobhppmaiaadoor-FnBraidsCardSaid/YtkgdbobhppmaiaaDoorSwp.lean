/- Contracts: exchanges in place: the reversal of the library, words of exchanges, half twists. -/
import Derived.Test.YtkgdbobhppmaiaaDoorWpb
import Derived.RegionTactic
import Derived.BigRegion
namespace Go.Proofs.YtkgdbobhppmaiaaDoor
open Go.RowKit

theorem Own.drew {w : World} {B : Nat} {e : TypeId} {v : Value} {xs : List Value} (h : Own w B e v xs) : Own w.drew B e v xs := h.keep fun _ _ _ => rfl
theorem grown_drew {w w' : World} {row : Option Nat} (h : w.grownBy w' row) : w.grownBy w'.drew row := ⟨h.os, h.tape, h.output, h.size, h.block⟩

theorem Own.adr_ne {w : World} {B : Nat} {e : TypeId} {v : Value} {xs : List Value} (h : Own w B e v xs) {i j : Nat} (hi : i < xs.length) (hij : i ≠ j) : adr v i ≠ adr v j := by
  rcases h with ⟨rfl, rfl⟩ | ⟨g, o, cap, cur, rfl, _⟩
  · simp at hi
  · show (⟨g, o, none⟩ : Addr).add i ≠ (⟨g, o, none⟩ : Addr).add j
    rw [add_lit, add_lit]
    intro e
    injection e with _ e2 _
    omega

/-- the outer k on both sides exchanged -/
def revTo (l : List Int) (k : Nat) : List Int := (List.range l.length).map fun t => if t < k ∨ l.length ≤ t + k then nth l (l.length - 1 - t) else nth l t
@[simp] theorem length_revTo (l : List Int) (k : Nat) : (revTo l k).length = l.length := by simp [revTo]
theorem nth_revTo {l : List Int} {k t : Nat} (h : t < l.length) : nth (revTo l k) t = if t < k ∨ l.length ≤ t + k then nth l (l.length - 1 - t) else nth l t := by simp [nth, revTo, h]
theorem revTo_zero (l : List Int) : revTo l 0 = l := by
  refine ext_nth (by simp) fun j hj => ?_
  simp at hj
  rw [nth_revTo hj, if_neg (by omega)]
theorem nth_reverse {l : List Int} {t : Nat} (h : t < l.length) : nth l.reverse t = nth l (l.length - 1 - t) := by
  simp [nth, List.getElem?_reverse h]
theorem revTo_end {l : List Int} {k : Nat} (h : l.length ≤ 2 * k + 1) : revTo l k = l.reverse := by
  refine ext_nth (by simp) fun j hj => ?_
  simp at hj
  rw [nth_revTo hj, nth_reverse hj]
  split
  · rfl
  · congr 1; omega
theorem nth_set {l : List Int} {i j : Nat} {x : Int} (hi : i < l.length) : nth (l.set i x) j = if i = j then x else nth l j := by
  unfold nth
  rw [List.getElem?_set]
  by_cases e : i = j
  · rw [if_pos e, if_pos hi, if_pos e]; rfl
  · rw [if_neg e, if_neg e]
theorem revTo_step {l : List Int} {k : Nat} (h : 2 * k + 1 < l.length) :
    ((revTo l k).set k (nth l (l.length - 1 - k))).set (l.length - 1 - k) (nth l k) = revTo l (k + 1) := by
  refine ext_nth (by simp) fun j hj => ?_
  simp at hj
  rw [nth_set (by simp; omega), nth_set (by simp; omega), nth_revTo hj, nth_revTo hj]
  by_cases e1 : l.length - 1 - k = j
  · rw [if_pos e1, if_pos (by omega)]; congr 1; omega
  · rw [if_neg e1]
    by_cases e2 : k = j
    · rw [if_pos e2, if_pos (by omega)]; congr 1; omega
    · rw [if_neg e2]
      by_cases e3 : j < k ∨ l.length ≤ j + k
      · rw [if_pos e3, if_pos (by omega)]
      · rw [if_neg e3, if_neg (by omega)]

set_option maxRecDepth 100000 in
set_option maxHeartbeats 1000000 in
theorem idn_impl (n : Int) (w : World) (h0 : 0 ≤ n) (h1 : n ≤ 1048576) :
    Calls Tryd.prog 99 #[.int .i64 n] w fun e w' => ∃ u, e = .returned u ∧ Own w' w.heap.size 2 u (ints (idn n.toNat)) ∧ Below w.heap.size w w' := by
  obtain ⟨m, rfl⟩ := Int.eq_ofNat_of_zero_le h0
  have hmk := make_run sliceI infoI rfl (m : Int) (by omega) (by omega) (by omega)
  rw [Int.toNat_natCast] at hmk ⊢
  have hlen := (own_made w 2 m (.int .i64 0) (by omega) (Nat.le_refl _)).reads.len (P := Tryd.prog) 35 3 ⟨_, sliceI⟩
  simp only [List.length_replicate] at hlen
  go_enter Tryd.func99, Tryd.ntmps99
  go_wp2_with fail
  go_loopw [4, 9] (fun _ i wr => ∃ k : Nat, k ≤ m ∧ i = .int .i64 k ∧ Own wr w.heap.size 2 (madeV w m) (ints ((List.range k).map (fun i : Nat => (i : Int)) ++ List.replicate (m - k) 0)) ∧ Below w.heap.size w wr) (fun _ i _ => m - (intOf i).toNat)
  case atStart =>
    refine ⟨0, by omega, rfl, ?_, below_made _ _ _ _⟩
    have := own_made w 2 m (.int .i64 0) (by omega) (Nat.le_refl _)
    simpa [ints] using this
  case round =>
    obtain ⟨k, hk, rfl, hown, hb⟩ := hrel
    by_cases hlt : k < m
    · have hi3 := hown.reads.idx 35 sliceI sizeI .i64 k (by omega) (by simp; omega)
      simp only [Int.toNat_natCast] at hi3
      have hd := hown.reads.cell k _ (ints_at (by simp; omega))
      have hf := hown.frozen (i := k) (by simp; omega)
      have hab := (hown.adr_blk (i := k) (by simp; omega)).2.1
      have hst := hown.set (i := k) (by simp; omega) (.int .i64 k)
      rw [ints_set, fill_step m (fun i : Nat => (i : Int)) hlt] at hst
      go_wp2_with fail
      go_roundw
      case rel => exact ⟨k + 1, by omega, by go_num, hst, hb.setCell hab _⟩
      case measure => simp [intOf]; omega
    · obtain rfl : k = m := by omega
      go_wp2_with fail
      go_ret
      exact ⟨_, rfl, by simpa [idn, marks] using hown, hb⟩

/-- the half twist: n - 1, .. 1, 0 -/
def halfF (n : Nat) : List Int := (idn n).reverse
@[simp] theorem length_halfF (n : Nat) : (halfF n).length = n := by simp [halfF]
theorem nth_halfF {n i : Nat} (h : i < n) : nth (halfF n) i = (n : Int) - 1 - i := by
  rw [halfF, nth_reverse (by simpa using h), length_idn, nth_idn (by omega)]; omega
theorem halfF_take {n k : Nat} (h : k < n) : (halfF n).take (k + 1) = (halfF n).take k ++ [(n : Int) - 1 - k] := by
  rw [List.take_add_one, nth_of (by simpa using h), nth_halfF h]; rfl

/-- exchange of the places k and k + 1 -/
def swapAt (l : List Int) (k : Nat) : List Int := (l.set k (nth l (k + 1))).set (k + 1) (nth l k)
@[simp] theorem length_swapAt (l : List Int) (k : Nat) : (swapAt l k).length = l.length := by simp [swapAt]
/-- exchanges one after the other -/
def exch (l : List Int) (word : List Int) : List Int := word.foldl (fun l k => swapAt l k.toNat) l
theorem exch_take {l word : List Int} {k : Nat} (h : k < word.length) : exch l (word.take (k + 1)) = swapAt (exch l (word.take k)) (nth word k).toNat := by
  unfold exch
  rw [List.take_add_one, nth_of h]; simp
@[simp] theorem length_exch (l word : List Int) : (exch l word).length = l.length := by
  unfold exch
  induction word generalizing l with
  | nil => rfl
  | cons x r ih => simp [ih]
theorem range_swapAt {l : List Int} {k : Nat} {P : Int → Prop} (hk : k + 1 < l.length) (h : ∀ i, i < l.length → P (nth l i)) : ∀ i, i < l.length → P (nth (swapAt l k) i) := by
  intro i hi
  unfold swapAt
  rw [nth_set (by simpa using hk)]
  split
  · exact h _ (by omega)
  · rw [nth_set (by omega)]
    split
    · exact h _ hk
    · exact h _ hi
theorem range_exch {l word : List Int} {P : Int → Prop} (hw : ∀ i, i < word.length → 0 ≤ nth word i ∧ nth word i + 1 < l.length) (h : ∀ i, i < l.length → P (nth l i)) (k : Nat) (hk : k ≤ word.length) :
    ∀ i, i < l.length → P (nth (exch l (word.take k)) i) := by
  induction k with
  | zero => simpa [exch] using h
  | succ k ih =>
    have h1 := hw k (by omega)
    rw [exch_take (by omega)]
    intro i hi
    exact range_swapAt (l := exch l (word.take k)) (by simp; omega) (fun j hj => ih (by omega) j (by simpa using hj)) i (by simpa using hi)
/-- the permutation of a word of exchanges of n things -/
def wordF (n : Nat) (word : List Int) : List Int := invF (exch (idn n) word)
@[simp] theorem length_wordF (n : Nat) (word : List Int) : (wordF n word).length = n := by simp [wordF]

set_option maxRecDepth 100000 in
set_option maxHeartbeats 2000000 in
theorem word_impl (n : Int) (v : Value) (l : List Int) (w : World) (h : Reads w v (ints l)) (h0 : 0 ≤ n) (h1 : n ≤ 1048576) (hl : l.length ≤ 1048576) (hr : ∀ i, i < l.length → 0 ≤ nth l i ∧ nth l i + 1 < n) :
    Calls Tryd.prog 79 #[.int .i64 n, v] w fun e w' => ∃ u, e = .returned u ∧ Own w' w.heap.size 2 u (ints (wordF n.toNat l)) ∧ Below w.heap.size w w' := by
  obtain ⟨m, rfl⟩ := Int.eq_ofNat_of_zero_le h0
  rw [Int.toNat_natCast]
  have hlen := h.len (P := Tryd.prog) 35 3 ⟨_, sliceI⟩
  simp only [length_ints] at hlen
  have hR := hid hr
  clear hr
  go_enter Tryd.func79, Tryd.ntmps79
  go_wp2_with fail
  refine (idn_impl _ _ h0 h1).mono ?_
  rintro e w1 ⟨x, rfl, hown, hb⟩
  rw [Int.toNat_natCast] at hown
  go_wp2_with fail
  go_loopw [7, 12] (fun _ i wr => ∃ k : Nat, k ≤ l.length ∧ i = .int .i64 k ∧ Own wr w.heap.size 2 x (ints (exch (idn m) (l.take k))) ∧ Below w.heap.size w wr) (fun _ i _ => l.length - (intOf i).toNat)
  case atStart => exact ⟨0, by omega, rfl, by simpa [exch] using hown, hb⟩
  case round =>
    clear hown hb
    obtain ⟨k, hk, rfl, hown, hb⟩ := hrel
    by_cases hlt : k < l.length
    · obtain ⟨r0, r1⟩ := hR.out k hlt
      have hi := h.idx 35 sliceI sizeI .i64 k (by omega) (by simpa using hlt)
      simp only [Int.toNat_natCast] at hi
      have hc := (h.below hb).int hlt
      generalize hx : nth l k = a at *
      have hX := hid hx
      clear hx
      have hi2 := hown.reads.idx 35 sliceI sizeI .i64 a r0 (by simp; omega)
      have hi3 := hown.reads.idx 35 sliceI sizeI .i64 (a + 1) (by omega) (by simp; omega)
      rw [show (a + 1).toNat = a.toNat + 1 by omega] at hi3
      have hd := hown.reads.cell a.toNat _ (ints_at (by simp; omega))
      have hd2 := hown.reads.cell (a.toNat + 1) _ (ints_at (by simp; omega))
      have hf := hown.frozen (i := a.toNat) (by simp; omega)
      have hf2 := hown.frozen (i := a.toNat + 1) (by simp; omega)
      have hab := (hown.adr_blk (i := a.toNat) (by simp; omega)).2.1
      have hab2 := (hown.adr_blk (i := a.toNat + 1) (by simp; omega)).2.1
      have hne := hown.adr_ne (i := a.toNat) (j := a.toNat + 1) (by simp; omega) (by omega)
      have hne2 := hown.adr_ne (i := a.toNat + 1) (j := a.toNat) (by simp; omega) (by omega)
      have hst := ((hown.set (i := a.toNat) (by simp; omega) (.int .i64 (nth (exch (idn m) (l.take k)) (a.toNat + 1)))).set (i := a.toNat + 1) (by simp; omega) (.int .i64 (nth (exch (idn m) (l.take k)) a.toNat))).drew
      rw [ints_set, ints_set] at hst
      have he : ((exch (idn m) (l.take k)).set a.toNat (nth (exch (idn m) (l.take k)) (a.toNat + 1))).set (a.toNat + 1) (nth (exch (idn m) (l.take k)) a.toNat) = exch (idn m) (l.take (k + 1)) := by rw [exch_take hlt, hX.out]; rfl
      rw [he] at hst
      have hE := hid he
      clear he
      go_wp2_with fail
      go_region
      go_wp2_with fail
      go_roundw
      case rel => exact ⟨k + 1, by omega, by go_num, hst, ((hb.setCell hab _).setCell hab2 _).drew⟩
      case measure => simp [intOf]; omega
    · obtain rfl : k = l.length := by omega
      rw [List.take_of_length_le (Nat.le_refl _)] at hown
      have hrange : Hid (∀ i, i < (exch (idn m) l).length → 0 ≤ nth (exch (idn m) l) i ∧ nth (exch (idn m) l) i < (exch (idn m) l).length) := by
        have := range_exch (l := idn m) (word := l) (P := fun x => 0 ≤ x ∧ x < m) (fun i hi => by have := hR.out i hi; simp; omega) (fun i hi => by simp at hi; rw [nth_idn hi]; omega) l.length (Nat.le_refl _)
        rw [List.take_of_length_le (Nat.le_refl _)] at this
        intro i hi
        simp at hi ⊢
        exact this i (by simpa using hi)
      go_wp2_with fail
      refine (inv_impl _ _ _ hown.reads (by simp; omega) hrange.out).mono ?_
      rintro e w2 ⟨y, rfl, hown2, hb2⟩
      go_wp2_with fail
      go_ret
      exact ⟨_, rfl, hown2.mono hb.size, hb.trans (hb2.mono hb.size)⟩

end Go.Proofs.YtkgdbobhppmaiaaDoor
