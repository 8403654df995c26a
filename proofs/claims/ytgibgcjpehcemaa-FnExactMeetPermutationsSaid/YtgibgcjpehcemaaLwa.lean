/- Walks of the exact laws on permutations: the law returns true and writes only new memory. -/
import Derived.Test.YtgibgcjpehcemaaWpe
import Derived.Test.YtgibgcjpehcemaaApq
namespace Go.Proofs.Ytgibgcjpehcemaa
open Go.RowKit

theorem onlyIf_le {b : Bool} {l : List Int} {n : Nat} (h : b = true → l.length ≤ n) : (onlyIf b l).length ≤ n := by
  cases b with
  | false => simp [onlyIf]
  | true => exact h rfl

end Go.Proofs.Ytgibgcjpehcemaa
