/- Contracts: descents and start letters; the second test for permutations. -/
import Derived.Test.YtoomkkeffejcdaaWpb
namespace Go.Proofs.Ytoomkkeffejcdaa
open Go.RowKit

theorem isDesc_yes {p : List Int} {k : Nat} (h : decide (nth p (k + 1) < nth p k) = true) : isDesc p k = true := h
theorem isDesc_no {p : List Int} {k : Nat} (h : decide (nth p (k + 1) < nth p k) = false) : isDesc p k = false := h

end Go.Proofs.Ytoomkkeffejcdaa
