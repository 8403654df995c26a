/- Contracts: the exported functions on one or two permutations that first test them. -/
import Derived.Test.YtoomkkeffejcdaaWpd
namespace Go.Proofs.Ytoomkkeffejcdaa
open Go.RowKit

/-- a result that is nil where the test fails -/
def onlyIf (b : Bool) (l : List Int) : List Int := if b = true then l else []
theorem own_nil (w : World) (B : Nat) (e : TypeId) : Own w B e (.slice none 0 0) [] := .inl ⟨rfl, rfl⟩
theorem IsPerm.range {l : List Int} (h : IsPerm l) : ∀ i, i < l.length → 0 ≤ nth l i ∧ nth l i < l.length := fun _ hi => ⟨h.lo hi, h.hi hi⟩
theorem length_invF_le {l : List Int} {n : Nat} (h : l.length ≤ n) : (invF l).length ≤ n := by simpa using h

end Go.Proofs.Ytoomkkeffejcdaa
