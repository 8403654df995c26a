/- Inversions of lists: one exchange of neighbours changes them by one. Plain. -/
import Derived.Test.YtkgdbobhppmaiaaDoorPer
import Derived.Test.YtkgdbobhppmaiaaDoorSwp
namespace Go.Proofs.YtkgdbobhppmaiaaDoor

theorem nth_set' {l : List Int} {i : Nat} (h : i < l.length) (x : Int) (j : Nat) : nth (l.set i x) j = if i = j then x else nth l j := by
  unfold nth
  rw [List.getElem?_set]
  by_cases e : i = j
  · subst e; simp [h]
  · simp [e]
theorem sum_one {f g : Nat → Int} {n i0 : Nat} {d : Int} (hi : i0 < n) (h : ∀ i, i < n → i ≠ i0 → f i = g i) (h0 : f i0 = g i0 + d) : sumTo f n = sumTo g n + d := by
  induction n with
  | zero => omega
  | succ n ih =>
    rw [sumTo_succ, sumTo_succ]
    by_cases e : i0 = n
    · subst e
      rw [h0, sumTo_congr (g := g) (fun i hi => h i (by omega) (by omega))]; omega
    · rw [ih (by omega) (fun i hi hne => h i (by omega) hne), h n (by omega) (by omega)]; omega
theorem sum_two {f g : Nat → Int} {n k : Nat} {d : Int} (hk : k + 1 < n) (h : ∀ i, i < n → i ≠ k → i ≠ k + 1 → f i = g i) (h0 : f k + f (k + 1) = g k + g (k + 1) + d) : sumTo f n = sumTo g n + d := by
  induction n with
  | zero => omega
  | succ n ih =>
    rw [sumTo_succ, sumTo_succ]
    by_cases e : k + 1 = n
    · subst e
      rw [sumTo_succ, sumTo_succ, sumTo_congr (g := g) (fun i hi => h i (by omega) (by omega) (by omega))]; omega
    · rw [ih (by omega) (fun i hi h1 h2 => h i (by omega) h1 h2), h n (by omega) (by omega) (by omega)]; omega
theorem cnt_swap {f g : Nat → Bool} {n k : Nat} (hk : k + 1 < n) (h : ∀ i, i < n → i ≠ k → i ≠ k + 1 → f i = g i) (h1 : f k = g (k + 1)) (h2 : f (k + 1) = g k) : cnt f n = cnt g n := by
  rw [cnt_sum, cnt_sum]
  have := sum_two (f := fun i => if f i then 1 else 0) (g := fun i => if g i then 1 else 0) (n := n) (k := k) (d := 0) hk (fun i hi a b => by rw [h i hi a b]) (by rw [h1, h2]; omega)
  omega

theorem nth_swapAt {l : List Int} {k : Nat} (hk : k + 1 < l.length) (i : Nat) : nth (swapAt l k) i = if i = k then nth l (k + 1) else if i = k + 1 then nth l k else nth l i := by
  unfold swapAt
  rw [nth_set' (by simpa using hk), nth_set' (by omega)]
  by_cases e1 : i = k
  · subst e1; rw [if_neg (by omega), if_pos rfl, if_pos rfl]
  · by_cases e2 : i = k + 1
    · subst e2; rw [if_pos rfl, if_neg (by omega), if_pos rfl]
    · rw [if_neg (by omega), if_neg (by omega), if_neg e1, if_neg e2]
theorem swapAt_swapAt {l : List Int} {k : Nat} (hk : k + 1 < l.length) : swapAt (swapAt l k) k = l := by
  apply ext_nth (by simp)
  intro j hj
  rw [nth_swapAt (by simpa using hk)]
  by_cases e1 : j = k
  · subst e1; rw [if_pos rfl, nth_swapAt hk, if_neg (by omega), if_pos rfl]
  · rw [if_neg e1]
    by_cases e2 : j = k + 1
    · subst e2; rw [if_pos rfl, nth_swapAt hk, if_pos rfl]
    · rw [if_neg e2, nth_swapAt hk, if_neg e1, if_neg e2]
theorem invs_desc {l : List Int} {k : Nat} (hk : k + 1 < l.length) (h : nth l (k + 1) < nth l k) : invsF (swapAt l k) = invsF l - 1 := by
  unfold invsF
  rw [length_swapAt]
  have := sum_two (f := fun j => cnt (fun i => decide (nth (swapAt l k) j < nth (swapAt l k) i)) j) (g := fun j => cnt (fun i => decide (nth l j < nth l i)) j) (n := l.length) (k := k) (d := -1) hk (by
    intro j hj h1 h2
    try simp only
    rw [nth_swapAt hk j, if_neg h1, if_neg h2]
    rcases Nat.lt_or_ge j k with h3 | h3
    · apply cnt_congr
      intro i hi
      rw [nth_swapAt hk i, if_neg (by omega), if_neg (by omega)]
    · apply cnt_swap (k := k) (by omega)
      · intro i hi a b
        rw [nth_swapAt hk i, if_neg a, if_neg b]
      · rw [nth_swapAt hk k, if_pos rfl]
      · rw [nth_swapAt hk (k + 1), if_neg (by omega), if_pos rfl]) (by
    try simp only
    rw [nth_swapAt hk k, if_pos rfl, nth_swapAt hk (k + 1), if_neg (by omega), if_pos rfl]
    rw [cnt_succ, cnt_succ, nth_swapAt hk k, if_pos rfl]
    have e1 : cnt (fun i => decide (nth l (k + 1) < nth (swapAt l k) i)) k = cnt (fun i => decide (nth l (k + 1) < nth l i)) k := by
      apply cnt_congr; intro i hi; rw [nth_swapAt hk i, if_neg (by omega), if_neg (by omega)]
    have e2 : cnt (fun i => decide (nth l k < nth (swapAt l k) i)) k = cnt (fun i => decide (nth l k < nth l i)) k := by
      apply cnt_congr; intro i hi; rw [nth_swapAt hk i, if_neg (by omega), if_neg (by omega)]
    rw [e1, e2]
    have e3 : decide (nth l k < nth l (k + 1)) = false := by rw [decide_eq_false_iff_not]; omega
    have e4 : decide (nth l (k + 1) < nth l k) = true := by rw [decide_eq_true_eq]; exact h
    rw [e3, e4]; simp; omega)
  omega
theorem invs_asc {l : List Int} {k : Nat} (hk : k + 1 < l.length) (h : nth l k < nth l (k + 1)) : invsF (swapAt l k) = invsF l + 1 := by
  have := invs_desc (l := swapAt l k) (k := k) (by simpa using hk) (by
    rw [nth_swapAt hk, nth_swapAt hk, if_neg (by omega), if_pos rfl, if_pos rfl]; exact h)
  rw [swapAt_swapAt hk] at this; omega
theorem invsF_nonneg (l : List Int) : 0 ≤ invsF l := sumTo_nonneg fun _ _ => cnt_nonneg _ _

end Go.Proofs.YtkgdbobhppmaiaaDoor
