/- Walks of the first exact laws: constants, needles, names, beds, permutations. -/
import Derived.Test.YtinhhdojalaeeaaNam
import Derived.Test.YtinhhdojalaeeaaWpa
import Derived.Test.YtinhhdojalaeeaaApq
namespace Go.Proofs.Ytinhhdojalaeeaa
open Go.RowKit

theorem stays {P : Program} {f : FuncId} {args : Array Value} {w : World} {r : Ending} (h : Calls P f args w fun e w' => e = r ∧ w = w') : Calls P f args w fun e w' => e = r ∧ Below w.heap.size w w' :=
  h.mono fun _ _ ⟨he, hw⟩ => ⟨he, hw ▸ Below.refl _ _⟩

set_option maxHeartbeats 1000000 in
theorem walk_FnExactConstants (W : World) :
    Calls Try.prog 3 #[] W fun e w' => e = .returned (.bool true) ∧ Below W.heap.size W w' := by
  go_enter Try.func3, Try.ntmps3
  go_wp2_with fail
  go_ret
  exact ⟨rfl, Below.refl _ _⟩

set_option maxHeartbeats 1000000 in
theorem walk_FnExactValidNeedle (x0 y0 : Int) (W : World) :
    Calls Try.prog 4 #[.agg #[.int .i64 x0, .int .i64 y0]] W fun e w' => e = .returned (.bool true) ∧ Below W.heap.size W w' := by
  go_enter Try.func4, Try.ntmps4
  have hb0 := (Below.refl W.heap.size W).alloc (Nat.le_refl _) (.cells #[.int .i64 x0, .int .i64 y0] 24)
  have hB0 := own_arr W 24 #[.int .i64 x0, .int .i64 y0] 2 rfl (by omega) (Nat.zero_le W.heap.size)
  go_wp2_with fail
  refine (toN _ _ _).mono ?_
  rintro e w1 ⟨rfl, hs⟩
  have hb1 := hb0.trans (hs.mono hb0.size)
  have hB1 := hB0.below hs
  have hc0 := hB1.reads.cell 0 _ rfl
  rw [adr_arr] at hc0
  have hc1 := hB1.reads.cell 1 _ rfl
  rw [adr_arr] at hc1
  clear hB0
  clear hs hb0
  go_wp2_with fail
  refine (ValidNeedleS _ _ _).mono ?_
  rintro e w2 ⟨rfl, hs⟩
  have hb2 := hb1.trans (hs.mono hb1.size)
  have hB2 := hB1.below hs
  have hc0 := hB2.reads.cell 0 _ rfl
  rw [adr_arr] at hc0
  have hc1 := hB2.reads.cell 1 _ rfl
  rw [adr_arr] at hc1
  clear hB1
  clear hs hb1
  go_wp2_with fail
  refine (toN _ _ _).mono ?_
  rintro e w3 ⟨rfl, hs⟩
  have hb3 := hb2.trans (hs.mono hb2.size)
  have hB3 := hB2.below hs
  have hc0 := hB3.reads.cell 0 _ rfl
  rw [adr_arr] at hc0
  have hc1 := hB3.reads.cell 1 _ rfl
  rw [adr_arr] at hc1
  clear hB2
  clear hs hb2
  go_wp2_with fail
  refine (ValidNeedleI _ _ _).mono ?_
  rintro e w4 ⟨rfl, hs⟩
  have hb4 := hb3.trans (hs.mono hb3.size)
  have hB4 := hB3.below hs
  have hc0 := hB4.reads.cell 0 _ rfl
  rw [adr_arr] at hc0
  have hc1 := hB4.reads.cell 1 _ rfl
  rw [adr_arr] at hc1
  clear hB3
  clear hs hb3
  go_wp2_with fail
  go_ret
  exact ⟨rfl, hb4⟩

set_option maxHeartbeats 1000000 in
theorem walk_FnExactCodeName (x0 : Int) (W : World) (_b0 : -9223372036854775808 ≤ x0 ∧ x0 ≤ 9223372036854775807) :
    Calls Try.prog 5 #[.int .i64 x0] W fun e w' => e = .returned (.bool true) ∧ Below W.heap.size W w' := by
  go_enter Try.func5, Try.ntmps5
  have hb0 := Below.refl W.heap.size W
  go_wp2_with fail
  refine (code_spec _ _).mono ?_
  rintro e w1 ⟨rfl, hs⟩
  have hb1 := hb0.trans (hs.mono hb0.size)
  clear hs hb0
  go_wp2_with fail
  refine (code_impl _ _).mono ?_
  rintro e w2 ⟨rfl, hs⟩
  have hb2 := hb1.trans (hs.mono hb1.size)
  clear hs hb1
  go_wp2_with fail
  go_ret
  exact ⟨rfl, hb2⟩

set_option maxHeartbeats 1000000 in
theorem walk_FnExactOtherBed (x0 : Int) (W : World) (_b0 : -9223372036854775808 ≤ x0 ∧ x0 ≤ 9223372036854775807) :
    Calls Try.prog 6 #[.int .i64 x0] W fun e w' => e = .returned (.bool true) ∧ Below W.heap.size W w' := by
  go_enter Try.func6, Try.ntmps6
  have hb0 := Below.refl W.heap.size W
  go_wp2_with fail
  refine (stays (other_spec _ _)).mono ?_
  rintro e w1 ⟨rfl, hs⟩
  have hb1 := hb0.trans (hs.mono hb0.size)
  clear hs hb0
  go_wp2_with fail
  refine (stays (other_impl _ _)).mono ?_
  rintro e w2 ⟨rfl, hs⟩
  have hb2 := hb1.trans (hs.mono hb1.size)
  clear hs hb1
  go_wp2_with fail
  go_ret
  exact ⟨rfl, hb2⟩

set_option maxHeartbeats 1000000 in
theorem walk_FnExactIsName (s0 : ByteArray) (W : World) (hs0 : s0.size ≤ maxLen) :
    Calls Try.prog 7 #[.string s0] W fun e w' => e = .returned (.bool true) ∧ Below W.heap.size W w' := by
  have hm : s0.size ≤ 9223372036854775807 := by simpa [maxLen] using hs0
  clear hs0
  by_cases hl0 : s0.size ≤ 1048576
  rotate_left
  · go_enter Try.func7, Try.ntmps7
    go_wp2_with fail
    go_ret
    exact ⟨rfl, Below.refl _ _⟩
  go_enter Try.func7, Try.ntmps7
  have hb0 := Below.refl W.heap.size W
  go_wp2_with fail
  refine (stays (IsNameS _ _ hl0)).mono ?_
  rintro e w1 ⟨rfl, hs⟩
  have hb1 := hb0.trans (hs.mono hb0.size)
  clear hs hb0
  go_wp2_with fail
  refine (stays (IsNameI _ _ hl0)).mono ?_
  rintro e w2 ⟨rfl, hs⟩
  have hb2 := hb1.trans (hs.mono hb1.size)
  clear hs hb1
  go_wp2_with fail
  go_ret
  exact ⟨rfl, hb2⟩

set_option maxHeartbeats 400000 in
theorem VPS (v : Value) (l : List Int) (w : World) (h : Reads w v (ints l)) :
    Calls Try.prog 18 #[v] w fun e w' => e = .returned (.bool (okP l)) ∧ Below w.heap.size w w' := by
  go_enter Try.func18, Try.ntmps18
  go_wp2_with fail
  refine (ok_spec _ _ _ h).mono ?_
  rintro e w1 ⟨rfl, hb⟩
  go_wp2_with fail
  go_ret
  exact ⟨rfl, hb⟩

set_option maxHeartbeats 2000000 in
theorem walk_FnExactValidPermutation (a0 : Value) (l0 : List Int) (W : World) (h0 : Reads W a0 (ints l0)) :
    Calls Try.prog 8 #[a0] W fun e w' => e = .returned (.bool true) ∧ Below W.heap.size W w' := by
  have hs0 := h0.small
  have hlen0 := h0.len (P := Try.prog) 33 3 ⟨_, sliceI⟩
  simp only [length_ints] at hs0 hlen0
  by_cases hl0 : l0.length ≤ 1048576
  rotate_left
  · go_enter Try.func8, Try.ntmps8
    go_wp2_with fail
    go_ret
    exact ⟨rfl, Below.refl _ _⟩
  go_enter Try.func8, Try.ntmps8
  have hb0 : Below W.heap.size W W := Below.refl _ _
  go_wp2_with fail
  refine (toI _ _ _ (h0.below hb0) hl0).mono ?_
  rintro e w1 ⟨c0, rfl, ho, hs⟩
  have c0O1 := ho.mono hb0.size
  have hb1 := hb0.trans (hs.mono hb0.size)
  clear ho
  clear hb0 hs
  go_wp2_with fail
  refine (VPS _ _ _ c0O1.reads).mono ?_
  rintro e w2 ⟨rfl, hs⟩
  have hb2 := hb1.trans (hs.mono hb1.size)
  have c0O2 := c0O1.below hs
  clear hb1 c0O1 hs
  go_wp2_with fail
  refine (toI _ _ _ (h0.below hb2) hl0).mono ?_
  rintro e w3 ⟨x0, rfl, ho, hs⟩
  have ap_c0_x0 : Apart c0 x0 := apart_new c0O2 ho
  have ap_x0_c0 : Apart x0 c0 := apart_new' c0O2 ho
  have x0O3 := ho.mono hb2.size
  have hb3 := hb2.trans (hs.mono hb2.size)
  have c0O3 := c0O2.below hs
  clear ho
  clear hb2 c0O2 hs
  go_wp2_with fail
  refine (ok_impl _ _ _ x0O3.reads).mono ?_
  rintro e w4 ⟨rfl, hs⟩
  have hb4 := hb3.trans (hs.mono hb3.size)
  have c0O4 := c0O3.below hs
  have x0O4 := x0O3.below hs
  clear hb3 c0O3 x0O3 hs
  go_wp2_with fail
  refine (toI _ _ _ (h0.below hb4) hl0).mono ?_
  rintro e w5 ⟨y0, rfl, ho, hs⟩
  have ap_c0_y0 : Apart c0 y0 := apart_new c0O4 ho
  have ap_y0_c0 : Apart y0 c0 := apart_new' c0O4 ho
  have ap_x0_y0 : Apart x0 y0 := apart_new x0O4 ho
  have ap_y0_x0 : Apart y0 x0 := apart_new' x0O4 ho
  have y0O5 := ho.mono hb4.size
  have hb5 := hb4.trans (hs.mono hb4.size)
  have c0O5 := c0O4.below hs
  have x0O5 := x0O4.below hs
  clear ho
  clear hb4 c0O4 x0O4 hs
  go_wp2_with fail
  refine (eqI _ _ _ _ _ x0O5.reads y0O5.reads).mono ?_
  rintro e w6 ⟨rfl, hs⟩
  have hb6 := hb5.trans (hs.mono hb5.size)
  have c0O6 := c0O5.below hs
  have x0O6 := x0O5.below hs
  have y0O6 := y0O5.below hs
  clear hb5 c0O5 x0O5 y0O5 hs
  rw [decide_eq_true rfl]
  go_wp2_with fail
  go_ret
  exact ⟨rfl, hb6⟩


end Go.Proofs.Ytinhhdojalaeeaa
