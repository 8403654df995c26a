/- Permutations as lists of numbers: what the functions on them compute, as plain functions, and how their loops come to it. No program is looked at. -/
import Derived.Test.YtkgdbobhppmaiaaDoorSum
import Derived.Test.YtkgdbobhppmaiaaDoorIdn
namespace Go.Proofs.YtkgdbobhppmaiaaDoor

/-- the first k numbers are below the length and differ -/
def PermTo (l : List Int) (k : Nat) : Prop := ∀ i, i < k → 0 ≤ nth l i ∧ nth l i < l.length ∧ ∀ j, j < i → nth l j ≠ nth l i
instance (l : List Int) (k : Nat) : Decidable (PermTo l k) := inferInstanceAs (Decidable (∀ i, i < k → _))
def IsPerm (l : List Int) : Prop := PermTo l l.length
instance (l : List Int) : Decidable (IsPerm l) := inferInstanceAs (Decidable (PermTo l l.length))
/-- a permutation of at most twelve things -/
def okP (l : List Int) : Bool := decide (l.length ≤ 12) && decide (IsPerm l)

theorem okP_of {l : List Int} (h : okP l = true) : l.length ≤ 12 ∧ IsPerm l := by simpa [okP] using h
theorem okP_mk {l : List Int} (h : l.length ≤ 12) (h' : IsPerm l) : okP l = true := by simp [okP, h, h']
theorem okP_long {l : List Int} (h : ¬ l.length ≤ 12) : okP l = false := by simp [okP, h]
theorem okP_not {l : List Int} (h : ¬ IsPerm l) : okP l = false := by simp [okP, h]

theorem PermTo.zero (l : List Int) : PermTo l 0 := fun i hi => absurd hi (by omega)
theorem PermTo.succ {l : List Int} {k : Nat} (h : PermTo l k) (h0 : 0 ≤ nth l k) (h1 : nth l k < l.length) (h2 : ∀ j, j < k → nth l j ≠ nth l k) : PermTo l (k + 1) := by
  intro i hi
  by_cases e : i = k
  · subst e; exact ⟨h0, h1, h2⟩
  · exact h i (by omega)
theorem IsPerm.lo {l : List Int} (h : IsPerm l) {i : Nat} (hi : i < l.length) : 0 ≤ nth l i := (h i hi).1
theorem IsPerm.hi {l : List Int} (h : IsPerm l) {i : Nat} (hi : i < l.length) : nth l i < l.length := (h i hi).2.1
theorem IsPerm.ne {l : List Int} (h : IsPerm l) {i j : Nat} (hi : i < l.length) (hj : j < l.length) (hne : i ≠ j) : nth l i ≠ nth l j := by
  rcases Nat.lt_or_gt_of_ne hne with h' | h'
  · exact (h j hj).2.2 i h'
  · exact fun e => (h i hi).2.2 j h' e.symm

/-- which numbers have been seen among the first k -/
def seenTo (l : List Int) (n k : Nat) : List Bool := (List.range n).map fun x : Nat => (List.range k).any fun j => nth l j == (x : Int)
@[simp] theorem length_seenTo (l : List Int) (n k : Nat) : (seenTo l n k).length = n := by simp [seenTo]
theorem seenTo_zero (l : List Int) (n : Nat) : seenTo l n 0 = List.replicate n false := by
  apply List.ext_getElem (by simp)
  intro i h1 h2
  simp [seenTo]
theorem seenTo_at (l : List Int) (n k : Nat) {x : Int} (h0 : 0 ≤ x) (h1 : x < n) : (seenTo l n k)[x.toNat]? = some ((List.range k).any fun j => nth l j == x) := by
  have : x.toNat < n := by omega
  simp [seenTo, this, Int.toNat_of_nonneg h0]
theorem seenTo_set (l : List Int) (n k : Nat) (h0 : 0 ≤ nth l k) (_h1 : nth l k < n) : (seenTo l n k).set (nth l k).toNat true = seenTo l n (k + 1) := by
  apply List.ext_getElem (by simp)
  intro i h1 h2
  simp only [List.getElem_set, seenTo, List.getElem_map, List.getElem_range, List.range_succ, List.any_append, List.any_cons, List.any_nil, Bool.or_false]
  by_cases e : (nth l k).toNat = i
  · have : nth l k = (i : Int) := by omega
    simp [this]
  · have : (nth l k == (i : Int)) = false := by simp; omega
    simp [e, this]
def bools (l : List Bool) : List Value := l.map Value.bool
@[simp] theorem length_bools (l : List Bool) : (bools l).length = l.length := by simp [bools]
theorem bools_at {l : List Bool} {i : Nat} {x : Bool} (h : l[i]? = some x) : (bools l)[i]? = some (.bool x) := by simp [bools, h]
theorem bools_set (l : List Bool) (i : Nat) (x : Bool) : (bools l).set i (.bool x) = bools (l.set i x) := by simp [bools, List.map_set]
theorem seen_no {l : List Int} {k : Nat} {x : Int} (h : ((List.range k).any fun j => nth l j == x) = false) : ∀ j, j < k → nth l j ≠ x := by
  intro j hj e
  have : ((List.range k).any fun j => nth l j == x) = true := by rw [List.any_eq_true]; exact ⟨j, by simpa using hj, by simp [e]⟩
  rw [h] at this; cases this
theorem seen_yes {l : List Int} {k : Nat} {x : Int} (h : ((List.range k).any fun j => nth l j == x) = true) : ∃ j, j < k ∧ nth l j = x := by
  rw [List.any_eq_true] at h
  obtain ⟨j, hj, e⟩ := h
  exact ⟨j, by simpa using hj, by simpa using e⟩
theorem not_perm_range {l : List Int} {k : Nat} (hk : k < l.length) (h : inB (nth l k) 0 ((l.length : Int) - 1) = false) : ¬ IsPerm l := by
  intro hp
  have := hp.lo hk
  have := hp.hi hk
  simp [inB] at h; omega
theorem not_perm_seen {l : List Int} {k : Nat} (hk : k < l.length) (h : ∃ j, j < k ∧ nth l j = nth l k) : ¬ IsPerm l := by
  intro hp
  obtain ⟨j, hj, e⟩ := h
  exact (hp k hk).2.2 j hj e
theorem inB_yes {x lo hi : Int} (h : inB x lo hi = true) : lo ≤ x ∧ x ≤ hi := by simpa [inB] using h

/-- first, then second -/
def compF (f s : List Int) : List Int := f.map fun k => nth s k.toNat
@[simp] theorem length_compF (f s : List Int) : (compF f s).length = f.length := by simp [compF]
theorem nth_map {l : List Int} {i : Nat} (g : Int → Int) (h : i < l.length) : nth (l.map g) i = g (nth l i) := by simp [nth, h]
theorem nth_compF {f s : List Int} {i : Nat} (h : i < f.length) : nth (compF f s) i = nth s (nth f i).toNat := nth_map _ h
theorem take_succ_map (l : List Int) (g : Int → Int) {k : Nat} (h : k < l.length) : (l.take (k + 1)).map g = (l.take k).map g ++ [g (nth l k)] := by
  rw [List.take_add_one, nth_of h]; simp
/-- a map written into a row of zeros, one element a round -/
theorem map_step (l : List Int) (g : Int → Int) {k : Nat} (hk : k < l.length) :
    ((l.take k).map g ++ List.replicate (l.length - k) 0).set k (g (nth l k)) = (l.take (k + 1)).map g ++ List.replicate (l.length - (k + 1)) 0 := by
  rw [take_succ_map l g hk, List.set_append_right _ _ (by simp; omega)]
  have : k - ((l.take k).map g).length = 0 := by simp; omega
  rw [this, show l.length - k = (l.length - (k + 1)) + 1 by omega, List.replicate_succ]
  simp

/-- the inverse, after k rounds -/
def invTo (p : List Int) : Nat → List Int
  | 0 => List.replicate p.length 0
  | k + 1 => (invTo p k).set (nth p k).toNat k
def invF (p : List Int) : List Int := invTo p p.length
@[simp] theorem length_invTo (p : List Int) (k : Nat) : (invTo p k).length = p.length := by
  induction k with
  | zero => simp [invTo]
  | succ k ih => simp [invTo, ih]
@[simp] theorem length_invF (p : List Int) : (invF p).length = p.length := length_invTo p _

/-- seen from the other side -/
def flipF (p : List Int) : List Int := (List.range p.length).map fun i : Nat => (p.length : Int) - 1 - nth p (p.length - 1 - i)
@[simp] theorem length_flipF (p : List Int) : (flipF p).length = p.length := by simp [flipF]
/-- a function of the place written into a row of zeros -/
theorem fill_step (n : Nat) (g : Nat → Int) {k : Nat} (hk : k < n) :
    ((List.range k).map g ++ List.replicate (n - k) 0).set k (g k) = (List.range (k + 1)).map g ++ List.replicate (n - (k + 1)) 0 := by
  rw [List.range_succ, List.set_append_right _ _ (by simp)]
  have : k - ((List.range k).map g).length = 0 := by simp
  rw [this, show n - k = (n - (k + 1)) + 1 by omega, List.replicate_succ]
  simp

/-- the i with f i, among the first k, as numbers -/
def listTo (f : Nat → Bool) (g : Nat → Int) (k : Nat) : List Int := ((List.range k).filter f).map g
theorem listTo_zero (f : Nat → Bool) (g : Nat → Int) : listTo f g 0 = [] := rfl
theorem listTo_yes {f : Nat → Bool} {g : Nat → Int} {k : Nat} (h : f k = true) : listTo f g (k + 1) = listTo f g k ++ [g k] := by simp [listTo, List.range_succ, h]
theorem listTo_no {f : Nat → Bool} {g : Nat → Int} {k : Nat} (h : f k = false) : listTo f g (k + 1) = listTo f g k := by simp [listTo, List.range_succ, h]
theorem length_listTo (f : Nat → Bool) (g : Nat → Int) (k : Nat) : (listTo f g k).length ≤ k := by
  have := List.length_filter_le f (List.range k)
  simpa [listTo] using this
def isDesc (p : List Int) (i : Nat) : Bool := decide (nth p (i + 1) < nth p i)
/-- all i for which the pair i, i + 1 is an inversion -/
def descF (p : List Int) : List Int := listTo (isDesc p) (fun i : Nat => (i : Int)) (p.length - 1)
/-- the letters that can begin: one more each -/
def startF (p : List Int) : List Int := listTo (isDesc p) (fun i : Nat => (i : Int) + 1) (p.length - 1)
theorem startF_descF (p : List Int) : startF p = (descF p).map (· + 1) := by simp [startF, descF, listTo, Function.comp_def]

/-- the number of inversions -/
def invsF (p : List Int) : Int := sumTo (fun j => cnt (fun i => decide (nth p j < nth p i)) j) p.length
/-- the same, counted row by row -/
theorem invs_rows (p : List Int) : sumTo (fun i => cnt (fun t => decide (nth p (i + t) < nth p i)) (p.length - i)) p.length = invsF p := by
  have h1 : sumTo (fun i => cnt (fun t => decide (nth p (i + t) < nth p i)) (p.length - i)) p.length =
      sumTo (fun i => sumTo (fun j => if decide (i ≤ j) && decide (nth p j < nth p i) then 1 else 0) p.length) p.length := by
    apply sumTo_congr
    intro i hi
    rw [cnt_shift (fun j => decide (nth p j < nth p i)) i (p.length - i), show i + (p.length - i) = p.length by omega, cnt_sum]
  have h2 : invsF p = sumTo (fun j => sumTo (fun i => if decide (i ≤ j) && decide (nth p j < nth p i) then 1 else 0) p.length) p.length := by
    apply sumTo_congr
    intro j hj
    rw [← cnt_sum]
    have : ∀ n, j ≤ n → cnt (fun i => decide (nth p j < nth p i)) j = cnt (fun i => decide (i ≤ j) && decide (nth p j < nth p i)) n := by
      intro n hn
      induction n with
      | zero => obtain rfl : j = 0 := by omega
                rfl
      | succ n ih =>
        by_cases e : j = n + 1
        · subst e
          exact cnt_congr (by intro i hi; simp; omega)
        · rw [cnt_succ, ← ih (by omega)]
          by_cases e' : n = j
          · subst e'; simp
          · have : ¬ n ≤ j := by omega
            simp [this]
    exact this _ (by omega)
  rw [h1, h2, sumTo_swap]

end Go.Proofs.YtkgdbobhppmaiaaDoor
