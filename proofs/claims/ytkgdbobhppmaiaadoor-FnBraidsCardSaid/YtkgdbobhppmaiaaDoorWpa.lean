/- Contracts: the tests for permutations, of the program and of the reference. -/
import Derived.Test.YtkgdbobhppmaiaaDoorPer
namespace Go.Proofs.YtkgdbobhppmaiaaDoor
open Go.RowKit

theorem sizeB : (sizeOf 4).run Tryd.prog = fun w => .ok 1 w := by funext w; kernel_rfl
theorem infoB : (Tryd.prog.info? 4).map (fun i => (i.zero, i.size, i.bytes)) = some (some (.bool false), 1, 1) := by kernel_rfl

end Go.Proofs.YtkgdbobhppmaiaaDoor
