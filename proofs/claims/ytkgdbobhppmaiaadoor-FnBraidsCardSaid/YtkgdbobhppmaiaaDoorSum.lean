/- Sums and counts over 0 .. n-1, as loops make them. Plain arithmetic. -/
import Derived.Test.YtkgdbobhppmaiaaDoorCore
namespace Go.Proofs.YtkgdbobhppmaiaaDoor

/-- f 0 + .. + f (k-1) -/
def sumTo (f : Nat → Int) : Nat → Int
  | 0 => 0
  | k + 1 => sumTo f k + f k

/-- how many i < k meet f -/
def cnt (f : Nat → Bool) : Nat → Int
  | 0 => 0
  | k + 1 => cnt f k + (if f k then 1 else 0)

theorem sumTo_succ (f : Nat → Int) (k : Nat) : sumTo f (k + 1) = sumTo f k + f k := rfl
theorem cnt_succ (f : Nat → Bool) (k : Nat) : cnt f (k + 1) = cnt f k + (if f k then 1 else 0) := rfl
theorem cnt_yes {f : Nat → Bool} {k : Nat} (h : f k = true) : cnt f (k + 1) = cnt f k + 1 := by rw [cnt_succ, h]; rfl
theorem cnt_no {f : Nat → Bool} {k : Nat} (h : f k = false) : cnt f (k + 1) = cnt f k := by rw [cnt_succ, h]; simp

theorem sumTo_congr {f g : Nat → Int} {k : Nat} (h : ∀ i, i < k → f i = g i) : sumTo f k = sumTo g k := by
  induction k with
  | zero => rfl
  | succ k ih => rw [sumTo_succ, sumTo_succ, ih (fun i hi => h i (by omega)), h k (by omega)]

theorem cnt_congr {f g : Nat → Bool} {k : Nat} (h : ∀ i, i < k → f i = g i) : cnt f k = cnt g k := by
  induction k with
  | zero => rfl
  | succ k ih => rw [cnt_succ, cnt_succ, ih (fun i hi => h i (by omega)), h k (by omega)]

theorem sumTo_add (f g : Nat → Int) (k : Nat) : sumTo (fun i => f i + g i) k = sumTo f k + sumTo g k := by
  induction k with
  | zero => rfl
  | succ k ih => simp only [sumTo_succ, ih]; omega

theorem sumTo_zero (k : Nat) : sumTo (fun _ => 0) k = 0 := by
  induction k with
  | zero => rfl
  | succ k ih => simp only [sumTo_succ, ih]; omega

theorem sumTo_swap (f : Nat → Nat → Int) (n m : Nat) : sumTo (fun i => sumTo (fun j => f i j) m) n = sumTo (fun j => sumTo (fun i => f i j) n) m := by
  induction n with
  | zero => simp only [sumTo]; exact (sumTo_zero m).symm
  | succ n ih => simp only [sumTo_succ, ih]; rw [← sumTo_add]

theorem cnt_sum (f : Nat → Bool) (k : Nat) : cnt f k = sumTo (fun i => if f i then 1 else 0) k := by
  induction k with
  | zero => rfl
  | succ k ih => rw [cnt_succ, sumTo_succ, ih]

theorem cnt_nonneg (f : Nat → Bool) (k : Nat) : 0 ≤ cnt f k := by
  induction k with
  | zero => exact Int.le_refl _
  | succ k ih => rw [cnt_succ]; split <;> omega

theorem cnt_le (f : Nat → Bool) (k : Nat) : cnt f k ≤ k := by
  induction k with
  | zero => exact Int.le_refl _
  | succ k ih => rw [cnt_succ]; split <;> omega

theorem cnt_false (k : Nat) : cnt (fun _ => false) k = 0 := by
  induction k with
  | zero => rfl
  | succ k ih => rw [cnt_succ, ih]; rfl

/-- a count over i .. n-1, counted from i on, is the count over 0 .. n-1 of what lies there -/
theorem cnt_shift (f : Nat → Bool) (i k : Nat) : cnt (fun t => f (i + t)) k = cnt (fun j => decide (i ≤ j) && f j) (i + k) := by
  induction k with
  | zero =>
    have : cnt (fun j => decide (i ≤ j) && f j) (i + 0) = cnt (fun _ => false) i := cnt_congr (by intro j hj; simp; omega)
    rw [this, cnt_false]; rfl
  | succ k ih =>
    rw [cnt_succ, ih, show i + (k + 1) = (i + k) + 1 by omega, cnt_succ]
    congr 1
    simp

theorem sumTo_nonneg {f : Nat → Int} {k : Nat} (h : ∀ i, i < k → 0 ≤ f i) : 0 ≤ sumTo f k := by
  induction k with
  | zero => exact Int.le_refl _
  | succ k ih => rw [sumTo_succ]; have := ih (fun i hi => h i (by omega)); have := h k (by omega); omega

theorem sumTo_le {f : Nat → Int} {k : Nat} {b : Int} (h : ∀ i, i < k → f i ≤ b) : sumTo f k ≤ k * b := by
  induction k with
  | zero => simp [sumTo]
  | succ k ih =>
    have h1 := ih (fun i hi => h i (by omega))
    have h2 := h k (by omega)
    rw [sumTo_succ, show ((k + 1 : Nat) : Int) * b = k * b + b by rw [Int.natCast_add, Int.add_mul]; simp]
    omega

end Go.Proofs.YtkgdbobhppmaiaaDoor
