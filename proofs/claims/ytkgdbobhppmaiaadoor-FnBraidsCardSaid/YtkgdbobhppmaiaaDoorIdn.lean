/- Contracts: the identity and the half twist, of the program and of the reference. -/
import Derived.Test.YtkgdbobhppmaiaaDoorHelp
import Derived.Test.YtkgdbobhppmaiaaDoorApp
import Derived.Test.YtkgdbobhppmaiaaDoorBas
namespace Go.Proofs.YtkgdbobhppmaiaaDoor
open Go.RowKit

/-- 0, 1, .. n-1 -/
def idn (n : Nat) : List Int := marks n 0
theorem idn_succ (k : Nat) : idn (k + 1) = idn k ++ [(k : Int)] := by simp [idn, marks, List.range_succ]
@[simp] theorem length_idn (n : Nat) : (idn n).length = n := by simp [idn]
theorem nth_idn {n i : Nat} (h : i < n) : nth (idn n) i = i := by rw [idn, nth_marks h]; omega

end Go.Proofs.YtkgdbobhppmaiaaDoor
