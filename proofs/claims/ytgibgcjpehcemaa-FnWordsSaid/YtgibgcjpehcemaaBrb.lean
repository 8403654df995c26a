/- Contracts: the program's test of braids, with its closures. -/
import Derived.Test.YtgibgcjpehcemaaBra
namespace Go.Proofs.Ytgibgcjpehcemaa
open Go.RowKit

theorem any_no {p : Nat → Bool} {k : Nat} (h : ((List.range k).any p) = false) (hp : p k = false) : ((List.range (k + 1)).any p) = false := by
  rw [List.range_succ, List.any_append, h]; simp [hp]
theorem any_yes {p : Nat → Bool} {k m : Nat} (hk : k < m) (hp : p k = true) : ((List.range m).any p) = true := by
  rw [List.any_eq_true]; exact ⟨k, by simpa using hk, hp⟩


theorem any_letters (n : Int) (l : List Int) : (!(List.range l.length).any fun i => !letterB n (nth l i)) = lettersTo n l l.length := by
  rw [lettersTo, List.not_any_eq_all_not]; simp

end Go.Proofs.Ytgibgcjpehcemaa
