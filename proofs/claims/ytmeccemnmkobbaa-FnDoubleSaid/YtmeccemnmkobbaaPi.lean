/- Inversions: one exchange of neighbours, or of neighbouring numbers, changes them by one; a permutation and its inverse have as many. Plain. -/
import Derived.Test.YtmeccemnmkobbaaPl
import Derived.Test.YtmeccemnmkobbaaInv
namespace Go.Proofs.Ytmeccemnmkobbaa

namespace Pm
variable {n : Nat}
/-- the number of inversions -/
def ni (p : Pm n) : Int := invsF p.1
theorem ni_nonneg (p : Pm n) : 0 ≤ ni p := invsF_nonneg _
theorem ni_front (q : Pm n) {k : Nat} (hk : k < n) (h0 : 0 < k) (h : le (sg n k hk) q) : ni (mul (sg n k hk) q) = ni q - 1 := by
  unfold ni
  rw [← front_val q hk h0]
  have hl := q.len
  apply invs_desc (by omega)
  have := (le_sg q hk h0).1 h
  rw [show k - 1 + 1 = k by omega, q.nth_at hk, q.nth_at (by omega)]; omega
theorem ni_pairs (p : Pm n) : ni p = sumTo (fun j => sumTo (fun i => if decide (i < j) && decide (p.at' j < p.at' i) then 1 else 0) n) n := by
  unfold ni invsF
  rw [p.len]
  apply sumTo_congr
  intro j hj
  rw [← cnt_sum]
  have : ∀ m, j ≤ m → m ≤ n → cnt (fun i => decide (nth p.1 j < nth p.1 i)) j = cnt (fun i => decide (i < j) && decide (p.at' j < p.at' i)) m := by
    intro m hm hmn
    induction m with
    | zero => obtain rfl : j = 0 := by omega
              rfl
    | succ m ih =>
      by_cases e : j = m + 1
      · subst e
        apply cnt_congr
        intro i hi
        rw [p.nth_at hj, p.nth_at (by omega)]
        have h1 : decide (i < m + 1) = true := by rw [decide_eq_true_eq]; exact hi
        rw [h1, Bool.true_and, decide_eq_decide]; omega
      · rw [cnt_succ, ← ih (by omega) (by omega)]
        have h1 : decide (m < j) = false := by rw [decide_eq_false_iff_not]; omega
        simp [h1]
  exact this n (by omega) (Nat.le_refl _)
theorem ni_back (p : Pm n) {k : Nat} (hk : k < n) (h0 : 0 < k) (h : (gar n).red p (sg n k hk)) : ni (mul p (sg n k hk)) = ni p + 1 := by
  have h1 := (red_sg p hk h0).1 h
  have hk1 : k - 1 < n := by omega
  obtain ⟨i0, hi0, e0⟩ := p.surj hk1
  obtain ⟨i1, hi1, e1⟩ := p.surj hk
  rw [at_inv _ hk1, at_inv _ hk] at h1
  have f0 : p.find (k - 1) = i0 := by rw [← e0, p.find_at hi0]
  have f1 : p.find k = i1 := by rw [← e1, p.find_at hi1]
  rw [f0, f1] at h1
  rw [ni_pairs, ni_pairs]
  have key : ∀ i j, i < n → j < n → ¬ (i = i0 ∧ j = i1) → i < j → (((mul p (sg n k hk)).at' j < (mul p (sg n k hk)).at' i) ↔ (p.at' j < p.at' i)) := by
    intro i j hi hj hne hij
    rw [at_mul _ _ hi, at_mul _ _ hj, at_sg hk (p.lt hi), at_sg hk (p.lt hj)]
    have a1 : p.at' i = k - 1 → i = i0 := fun e => p.inj hi hi0 (by omega)
    have a2 : p.at' i = k → i = i1 := fun e => p.inj hi hi1 (by omega)
    have a3 : p.at' j = k - 1 → j = i0 := fun e => p.inj hj hi0 (by omega)
    have a4 : p.at' j = k → j = i1 := fun e => p.inj hj hi1 (by omega)
    have a5 : p.at' i ≠ p.at' j := fun e => by have := p.inj hi hj e; omega
    unfold sgf
    repeat' split
    all_goals (first | omega | (constructor <;> intro _ <;> omega))
  apply sum_one hi1
  · intro j hj hne
    apply sumTo_congr
    intro i hi
    by_cases hij : i < j
    · have := key i j hi hj (by omega) hij
      simp only [hij, decide_true, Bool.true_and]
      rw [show decide ((mul p (sg n k hk)).at' j < (mul p (sg n k hk)).at' i) = decide (p.at' j < p.at' i) from decide_eq_decide.2 this]
    · simp [hij]
  · apply sum_one hi0
    · intro i hi hne
      by_cases hij : i < i1
      · have := key i i1 hi hi1 (by omega) hij
        simp only [hij, decide_true, Bool.true_and]
        rw [show decide ((mul p (sg n k hk)).at' i1 < (mul p (sg n k hk)).at' i) = decide (p.at' i1 < p.at' i) from decide_eq_decide.2 this]
      · simp [hij]
    · have a1 : (mul p (sg n k hk)).at' i1 = k - 1 := by
        rw [at_mul _ _ hi1, at_sg hk (p.lt hi1), e1]; unfold sgf; rw [if_neg (by omega), if_pos rfl]
      have a2 : (mul p (sg n k hk)).at' i0 = k := by
        rw [at_mul _ _ hi0, at_sg hk (p.lt hi0), e0]; unfold sgf; rw [if_pos (by omega)]
      rw [a1, a2, e0, e1]
      have b1 : decide (i0 < i1) = true := by rw [decide_eq_true_eq]; exact h1
      have b2 : decide (k - 1 < k) = true := by rw [decide_eq_true_eq]; omega
      have b3 : decide (k < k - 1) = false := by rw [decide_eq_false_iff_not]; omega
      rw [b1, b2, b3]; simp
theorem ni_one : ni (one n) = 0 := by
  rw [ni_pairs]
  have : ∀ j, j < n → sumTo (fun i => if decide (i < j) && decide ((one n).at' j < (one n).at' i) then 1 else 0) n = 0 := by
    intro j hj
    rw [sumTo_congr (g := fun _ => 0), sumTo_zero]
    intro i hi
    rw [at_one hi, at_one hj]
    by_cases h : i < j
    · have : ¬ j < i := by omega
      simp [h, this]
    · simp [h]
  rw [sumTo_congr (g := fun _ => 0) this, sumTo_zero]
/-- what holds of the permutation that moves nothing and stays when a letter is put in front holds of all -/
theorem front_ind {P : Pm n → Prop} (h1 : P (one n)) (hs : ∀ q k (hk : k < n), 0 < k → le (sg n k hk) q → P (mul (sg n k hk) q) → P q) (p : Pm n) : P p := by
  have : ∀ m : Nat, ∀ p : Pm n, ni p ≤ m → P p := by
    intro m
    induction m with
    | zero =>
      intro p hp
      rcases Classical.em (p = one n) with e | e
      · rw [e]; exact h1
      · obtain ⟨k, hk, h0, hle⟩ := has_start p e
        have a1 := ni_front p hk h0 hle
        have a2 := ni_nonneg (mul (sg n k hk) p)
        omega
    | succ m ih =>
      intro p hp
      rcases Classical.em (p = one n) with e | e
      · rw [e]; exact h1
      · obtain ⟨k, hk, h0, hle⟩ := has_start p e
        have a1 := ni_front p hk h0 hle
        exact hs p k hk h0 hle (ih _ (by omega))
  exact this (ni p).toNat p (by have := ni_nonneg p; omega)
theorem mul_inv_rev (a b : Pm n) : inv (mul a b) = mul (inv b) (inv a) := (gar n).mul_left (a := mul a b) (by
  show mul (mul a b) (inv (mul a b)) = mul (mul a b) (mul (inv b) (inv a))
  rw [mul_inv, assoc, ← assoc b, mul_inv, one_mul, mul_inv])
theorem inv_one : inv (one n) = one n := (gar n).mul_left (a := one n) (by
  show mul (one n) (inv (one n)) = mul (one n) (one n)
  rw [mul_inv, one_mul])
theorem inv_inv (a : Pm n) : inv (inv a) = a := (gar n).mul_left (a := inv a) (by
  show mul (inv a) (inv (inv a)) = mul (inv a) a
  rw [mul_inv, inv_mul])
theorem ni_inv (p : Pm n) : ni (inv p) = ni p := by
  refine front_ind (P := fun p => ni (inv p) = ni p) ?_ ?_ p
  · rw [inv_one]
  · intro q k hk h0 hle ih
    have a1 := ni_front q hk h0 hle
    have e : inv q = mul (inv (mul (sg n k hk) q)) (sg n k hk) := by
      rw [mul_inv_rev, sg_inv hk, assoc, sg_sg hk, mul_one]
    have hr : (gar n).red (inv (mul (sg n k hk) q)) (sg n k hk) := by
      rw [red_sg _ hk h0, inv_inv, at_mul _ _ hk, at_mul _ _ (by omega), at_sg hk hk, at_sg hk (by omega)]
      have := (le_sg q hk h0).1 hle
      unfold sgf
      rw [if_pos (by omega), if_neg (by omega), if_pos rfl]; exact this
    have a2 := ni_back _ hk h0 hr
    rw [← e] at a2
    omega

/-- how far letters stand behind: what falls with every move -/
def far : Nat → List (Pm n) → Int
  | _, [] => 0
  | k, p :: L => k * ni p + far (k + 1) L
theorem far_nonneg (k : Nat) (L : List (Pm n)) : 0 ≤ far k L := by
  induction L generalizing k with
  | nil => exact Int.le_refl _
  | cons p L ih =>
    have := ni_nonneg p
    have := ih (k + 1)
    have : 0 ≤ (k : Int) * ni p := Int.mul_nonneg (by omega) (by omega)
    simp only [far]; omega
theorem far_move (k : Nat) (A B : List (Pm n)) (p q p' q' : Pm n) (h1 : ni p' = ni p + 1) (h2 : ni q' = ni q - 1) : far k (A ++ p' :: q' :: B) = far k (A ++ p :: q :: B) - 1 := by
  induction A generalizing k with
  | nil =>
    simp only [List.nil_append, far]
    rw [h1, h2, Int.mul_add, Int.mul_sub]
    have : ((k + 1 : Nat) : Int) = (k : Int) + 1 := by omega
    rw [this]; omega
  | cons x A ih => simp only [List.cons_append, far]; rw [ih (k + 1)]; omega
end Pm

end Go.Proofs.Ytmeccemnmkobbaa
