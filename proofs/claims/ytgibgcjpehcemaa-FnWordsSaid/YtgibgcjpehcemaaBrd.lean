/- Contracts: comparison of braids, and the sum of exponents. -/
import Derived.Test.YtgibgcjpehcemaaBrb
import Derived.Test.YtgibgcjpehcemaaBrc
namespace Go.Proofs.Ytgibgcjpehcemaa
open Go.RowKit

/-- the sum of the signs of the first k letters -/
def expTo (l : List Int) (k : Nat) : Int := sumTo (fun i => if 0 < nth l i then 1 else -1) k
theorem expTo_pos {l : List Int} {k : Nat} (h : 0 < nth l k) : expTo l (k + 1) = expTo l k + 1 := by rw [expTo, sumTo_succ, if_pos h, expTo]
theorem expTo_neg {l : List Int} {k : Nat} (h : ¬ 0 < nth l k) : expTo l (k + 1) = expTo l k - 1 := by rw [expTo, sumTo_succ, if_neg h, expTo]; rfl
theorem expTo_size (l : List Int) (k : Nat) : -(k : Int) ≤ expTo l k ∧ expTo l k ≤ k := by
  induction k with
  | zero => exact ⟨by simp [expTo, sumTo], by simp [expTo, sumTo]⟩
  | succ k ih =>
    by_cases h : 0 < nth l k
    · rw [expTo_pos h]; omega
    · rw [expTo_neg h]; omega
def expF (n : Int) (l : List Int) : Int := if okB n l then expTo l l.length else 0

/-- a letter without its sign -/
def absI (k : Int) : Int := if k < 0 then -k else k
end Go.Proofs.Ytgibgcjpehcemaa
