/- Contracts: the laws' helpers on braids. -/
import Derived.Test.YtgibgcjpehcemaaBra
namespace Go.Proofs.Ytgibgcjpehcemaa
open Go.RowKit

/-- what is left of a size -/
def szN (k : Nat) (left : Int) : Int := if left - k < 0 then -1 else left - k

set_option maxHeartbeats 1000000 in
theorem eqB (n m : Int) (v u : Value) (l k : List Int) (w : World) (h : Reads w v (ints l)) (h' : Reads w u (ints k)) :
    Calls Try.prog 41 #[.agg #[.int .i64 n, v], .agg #[.int .i64 m, u]] w fun e w' => e = .returned (.bool (n == m && decide (l = k))) ∧ Below w.heap.size w w' := by
  have hr0 := reads_alloc (reads_alloc h (.cells #[.int .i64 n, v] 42)) (.cells #[.int .i64 m, u] 42)
  have hr1 := reads_alloc (reads_alloc h' (.cells #[.int .i64 n, v] 42)) (.cells #[.int .i64 m, u] 42)
  have hbox : Below w.heap.size w ((w.alloc (.cells #[.int .i64 n, v] 42)).alloc (.cells #[.int .i64 m, u] 42)) := ((Below.refl _ _).alloc (Nat.le_refl _) _).alloc (by simp) _
  cases e1 : (n == m) with
  | false =>
    have e1' : (n != m) = true := by simpa [bne] using e1
    go_enter Try.func41, Try.ntmps41
    go_wp2_with fail
    go_ret
    exact ⟨rfl, hbox⟩
  | true =>
    have e1' : (n != m) = false := by simpa [bne] using e1
    go_enter Try.func41, Try.ntmps41
    go_wp2_with fail
    refine (eqI _ _ _ _ _ hr0 hr1).mono ?_
    rintro e w1 ⟨rfl, hs⟩
    cases e2 : decide (l = k) with
    | true =>
      go_wp2_with fail
      go_ret
      exact ⟨by first | rfl | (rw [e2]; rfl), hbox.trans (hs.mono (by simp; omega))⟩
    | false =>
      go_wp2_with fail
      go_ret
      exact ⟨by first | rfl | (rw [e2]; rfl), hbox.trans (hs.mono (by simp; omega))⟩

set_option maxHeartbeats 1000000 in
theorem markB (n : Int) (v : Value) (l : List Int) (q : Int) (w : World) {B : Nat} (h : Own w B 2 v (ints l)) (hl : l.length ≤ 1099511627776) (q0 : 0 ≤ q) (q1 : q ≤ 1099511627776) :
    Calls Try.prog 42 #[.agg #[.int .i64 n, v], .int .i64 q] w fun e w' => e = .returned (.int .i64 (q + l.length)) ∧ Own w' B 2 v (ints (marks l.length q)) ∧ w.grownBy w' (blk v) := by
  have hr0 := own_alloc h (.cells #[.int .i64 n, v] 42)
  have hbox : Below w.heap.size w (w.alloc (.cells #[.int .i64 n, v] 42)) := (Below.refl _ _).alloc (Nat.le_refl _) _
  go_enter Try.func42, Try.ntmps42
  go_wp2_with fail
  refine (markI _ _ _ _ hr0 hl q0 q1).mono ?_
  rintro e w1 ⟨rfl, ho, hs⟩
  go_wp2_with fail
  go_ret
  exact ⟨rfl, ho, grown_trans (grown_of_below hbox _) hs⟩

set_option maxHeartbeats 1000000 in
theorem heldB (n : Int) (v : Value) (m : Nat) (q : Int) (w : World) (h : Reads w v (ints (marks m q))) (hl : m ≤ 1099511627776) (q0 : 0 ≤ q) (q1 : q ≤ 1099511627776) :
    Calls Try.prog 43 #[.agg #[.int .i64 n, v], .int .i64 q] w fun e w' => e = .returned (.int .i64 (q + m)) ∧ Below w.heap.size w w' := by
  have hr0 := reads_alloc h (.cells #[.int .i64 n, v] 42)
  have hbox : Below w.heap.size w (w.alloc (.cells #[.int .i64 n, v] 42)) := (Below.refl _ _).alloc (Nat.le_refl _) _
  go_enter Try.func43, Try.ntmps43
  go_wp2_with fail
  refine (heldI _ _ _ _ hr0 hl q0 q1).mono ?_
  rintro e w1 ⟨rfl, hs⟩
  go_wp2_with fail
  go_ret
  exact ⟨rfl, hbox.trans (hs.mono (by simp))⟩


end Go.Proofs.Ytgibgcjpehcemaa
