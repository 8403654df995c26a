/- Walk of the law on decimal forms. -/
import Derived.Test.YtkgdbobhppmaiaaDoorDec
namespace Go.Proofs.YtkgdbobhppmaiaaDoor
open Go.RowKit
open Go.Lib (itoa)

set_option maxRecDepth 100000 in
set_option maxHeartbeats 2000000 in
theorem DecSp (n : Int) (w : World) (h0 : -9223372036854775808 ≤ n) (h1 : n ≤ 9223372036854775807) :
    Calls Tryd.prog 12 #[.int .i64 n] w fun e w' => e = .returned (.string ⟨(itoa n).toArray⟩) ∧ Below w.heap.size w w' := by
  go_enter Tryd.func12, Tryd.ntmps12
  go_wp2_with fail
  refine (DecS n w h0 h1).mono ?_
  rintro e w1 ⟨rfl, hb⟩
  go_wp2_with fail
  go_ret
  exact ⟨rfl, hb⟩

set_option maxRecDepth 100000 in
set_option maxHeartbeats 2000000 in
theorem walk_FnExactDecimal (n : Int) (W : World) (bn : -9223372036854775808 ≤ n ∧ n ≤ 9223372036854775807) (hT : Tb W) :
    Calls Tryd.prog 3 #[.int .i64 n] W fun e w' => e = .returned (.bool true) ∧ Below W.heap.size W w' := by
  go_enter Tryd.func3, Tryd.ntmps3
  go_wp2_with fail
  refine (DecSp n W bn.1 bn.2).mono ?_
  rintro e w1 ⟨rfl, hb1⟩
  go_wp2_with fail
  refine (DecI n w1 bn.1 bn.2 (hT.below hb1)).mono ?_
  rintro e w2 ⟨rfl, hb2⟩
  go_wp2_with fail
  go_ret
  exact ⟨rfl, hb1.trans (hb2.mono hb1.size)⟩

end Go.Proofs.YtkgdbobhppmaiaaDoor
