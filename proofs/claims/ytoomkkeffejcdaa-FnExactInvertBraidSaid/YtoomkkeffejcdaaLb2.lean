/- Walks of the exact laws over two braids whose results are plain. -/
import Derived.Test.YtoomkkeffejcdaaLb1
namespace Go.Proofs.Ytoomkkeffejcdaa
open Go.RowKit

set_option maxHeartbeats 4000000 in
theorem walk_FnExactSameBraid (n0 : Int) (a0 : Value) (l0 : List Int) (n1 : Int) (a1 : Value) (l1 : List Int) (W : World) (h0 : Reads W a0 (ints l0)) (h1 : Reads W a1 (ints l1)) :
    Calls Try.prog 3 #[.agg #[.int .i64 n0, a0], .agg #[.int .i64 n1, a1]] W fun e w' => e = .returned (.bool true) ∧ Below W.heap.size W w' := by
  have hs0 := h0.small
  have hs1 := h1.small
  simp only [length_ints] at hs0 hs1
  by_cases hl0 : (1048576 : Int) - (l0.length : Int) < 0
  · have hz := szN_no hl0
    go_enter Try.func3, Try.ntmps3
    have hb0 : Below W.heap.size W W := Below.refl _ _
    have hnew := (own_arr W 24 #[.int .i64 n0, a0] 2 rfl (by omega) (Nat.le_refl _))
    have hb1 := hb0.alloc hb0.size (.cells #[.int .i64 n0, a0] 24)
    have A0O1 := hnew.mono hb0.size
    clear hnew hb0
    have hnew := (own_arr (W.alloc (.cells #[.int .i64 n0, a0] 24)) 24 #[.int .i64 n1, a1] 2 rfl (by omega) (Nat.le_refl _))
    have ap_A0_A1 := apart_new A0O1 hnew
    have ap_A1_A0 := apart_new' A0O1 hnew
    have hb2 := hb1.alloc hb1.size (.cells #[.int .i64 n1, a1] 24)
    have A0O2 := own_alloc A0O1 (.cells #[.int .i64 n1, a1] 24)
    have A1O2 := hnew.mono hb1.size
    simp only [World.size_alloc] at A1O2 ap_A0_A1 ap_A1_A0
    clear hnew hb1 A0O1
    have A0c0 := A0O2.reads.cell 0 _ rfl
    rw [adr_arr] at A0c0
    have A0c1 := A0O2.reads.cell 1 _ rfl
    rw [adr_arr] at A0c1
    have A1c0 := A1O2.reads.cell 0 _ rfl
    rw [adr_arr] at A1c0
    have A1c1 := A1O2.reads.cell 1 _ rfl
    rw [adr_arr] at A1c1
    go_wp2_with fail
    refine (szB _ _ _ (1048576) _ (h0.below hb2) (by omega) (by omega)).mono ?_
    rintro e w1 ⟨rfl, hs⟩
    have hb3 := hb2.trans (hs.mono hb2.size)
    have A0O3 := A0O2.below hs
    have A1O3 := A1O2.below hs
    clear hs hb2 A0O2 A1O2
    have A0c0 := A0O3.reads.cell 0 _ rfl
    rw [adr_arr] at A0c0
    have A0c1 := A0O3.reads.cell 1 _ rfl
    rw [adr_arr] at A0c1
    have A1c0 := A1O3.reads.cell 0 _ rfl
    rw [adr_arr] at A1c0
    have A1c1 := A1O3.reads.cell 1 _ rfl
    rw [adr_arr] at A1c1
    rw [hz]
    go_wp2_with fail
    go_ret
    exact ⟨rfl, hb3⟩
  by_cases hl1 : (1048576 : Int) - (l0.length : Int) - (l1.length : Int) < 0
  · have hz := szN_yes hl0
    have hz1 := szN_no hl1
    go_enter Try.func3, Try.ntmps3
    have hb0 : Below W.heap.size W W := Below.refl _ _
    have hnew := (own_arr W 24 #[.int .i64 n0, a0] 2 rfl (by omega) (Nat.le_refl _))
    have hb1 := hb0.alloc hb0.size (.cells #[.int .i64 n0, a0] 24)
    have A0O1 := hnew.mono hb0.size
    clear hnew hb0
    have hnew := (own_arr (W.alloc (.cells #[.int .i64 n0, a0] 24)) 24 #[.int .i64 n1, a1] 2 rfl (by omega) (Nat.le_refl _))
    have ap_A0_A1 := apart_new A0O1 hnew
    have ap_A1_A0 := apart_new' A0O1 hnew
    have hb2 := hb1.alloc hb1.size (.cells #[.int .i64 n1, a1] 24)
    have A0O2 := own_alloc A0O1 (.cells #[.int .i64 n1, a1] 24)
    have A1O2 := hnew.mono hb1.size
    simp only [World.size_alloc] at A1O2 ap_A0_A1 ap_A1_A0
    clear hnew hb1 A0O1
    have A0c0 := A0O2.reads.cell 0 _ rfl
    rw [adr_arr] at A0c0
    have A0c1 := A0O2.reads.cell 1 _ rfl
    rw [adr_arr] at A0c1
    have A1c0 := A1O2.reads.cell 0 _ rfl
    rw [adr_arr] at A1c0
    have A1c1 := A1O2.reads.cell 1 _ rfl
    rw [adr_arr] at A1c1
    go_wp2_with fail
    refine (szB _ _ _ (1048576) _ (h0.below hb2) (by omega) (by omega)).mono ?_
    rintro e w1 ⟨rfl, hs⟩
    have hb3 := hb2.trans (hs.mono hb2.size)
    have A0O3 := A0O2.below hs
    have A1O3 := A1O2.below hs
    clear hs hb2 A0O2 A1O2
    have A0c0 := A0O3.reads.cell 0 _ rfl
    rw [adr_arr] at A0c0
    have A0c1 := A0O3.reads.cell 1 _ rfl
    rw [adr_arr] at A0c1
    have A1c0 := A1O3.reads.cell 0 _ rfl
    rw [adr_arr] at A1c0
    have A1c1 := A1O3.reads.cell 1 _ rfl
    rw [adr_arr] at A1c1
    rw [hz]
    go_wp2_with fail
    refine (szB _ _ _ (1048576 - (l0.length : Int)) _ (h1.below hb3) (by omega) (by omega)).mono ?_
    rintro e w2 ⟨rfl, hs⟩
    have hb4 := hb3.trans (hs.mono hb3.size)
    have A0O4 := A0O3.below hs
    have A1O4 := A1O3.below hs
    clear hs hb3 A0O3 A1O3
    have A0c0 := A0O4.reads.cell 0 _ rfl
    rw [adr_arr] at A0c0
    have A0c1 := A0O4.reads.cell 1 _ rfl
    rw [adr_arr] at A0c1
    have A1c0 := A1O4.reads.cell 0 _ rfl
    rw [adr_arr] at A1c0
    have A1c1 := A1O4.reads.cell 1 _ rfl
    rw [adr_arr] at A1c1
    rw [hz1]
    go_wp2_with fail
    go_ret
    exact ⟨rfl, hb4⟩
  have hz := szN_yes hl0
  have hz1 := szN_yes hl1
  go_enter Try.func3, Try.ntmps3
  have hb0 : Below W.heap.size W W := Below.refl _ _
  have hnew := (own_arr W 24 #[.int .i64 n0, a0] 2 rfl (by omega) (Nat.le_refl _))
  have hb1 := hb0.alloc hb0.size (.cells #[.int .i64 n0, a0] 24)
  have A0O1 := hnew.mono hb0.size
  clear hnew hb0
  have hnew := (own_arr (W.alloc (.cells #[.int .i64 n0, a0] 24)) 24 #[.int .i64 n1, a1] 2 rfl (by omega) (Nat.le_refl _))
  have ap_A0_A1 := apart_new A0O1 hnew
  have ap_A1_A0 := apart_new' A0O1 hnew
  have hb2 := hb1.alloc hb1.size (.cells #[.int .i64 n1, a1] 24)
  have A0O2 := own_alloc A0O1 (.cells #[.int .i64 n1, a1] 24)
  have A1O2 := hnew.mono hb1.size
  simp only [World.size_alloc] at A1O2 ap_A0_A1 ap_A1_A0
  clear hnew hb1 A0O1
  have A0c0 := A0O2.reads.cell 0 _ rfl
  rw [adr_arr] at A0c0
  have A0c1 := A0O2.reads.cell 1 _ rfl
  rw [adr_arr] at A0c1
  have A1c0 := A1O2.reads.cell 0 _ rfl
  rw [adr_arr] at A1c0
  have A1c1 := A1O2.reads.cell 1 _ rfl
  rw [adr_arr] at A1c1
  go_wp2_with fail
  refine (szB _ _ _ (1048576) _ (h0.below hb2) (by omega) (by omega)).mono ?_
  rintro e w1 ⟨rfl, hs⟩
  have hb3 := hb2.trans (hs.mono hb2.size)
  have A0O3 := A0O2.below hs
  have A1O3 := A1O2.below hs
  clear hs hb2 A0O2 A1O2
  have A0c0 := A0O3.reads.cell 0 _ rfl
  rw [adr_arr] at A0c0
  have A0c1 := A0O3.reads.cell 1 _ rfl
  rw [adr_arr] at A0c1
  have A1c0 := A1O3.reads.cell 0 _ rfl
  rw [adr_arr] at A1c0
  have A1c1 := A1O3.reads.cell 1 _ rfl
  rw [adr_arr] at A1c1
  rw [hz]
  go_wp2_with fail
  refine (szB _ _ _ (1048576 - (l0.length : Int)) _ (h1.below hb3) (by omega) (by omega)).mono ?_
  rintro e w2 ⟨rfl, hs⟩
  have hb4 := hb3.trans (hs.mono hb3.size)
  have A0O4 := A0O3.below hs
  have A1O4 := A1O3.below hs
  clear hs hb3 A0O3 A1O3
  have A0c0 := A0O4.reads.cell 0 _ rfl
  rw [adr_arr] at A0c0
  have A0c1 := A0O4.reads.cell 1 _ rfl
  rw [adr_arr] at A0c1
  have A1c0 := A1O4.reads.cell 0 _ rfl
  rw [adr_arr] at A1c0
  have A1c1 := A1O4.reads.cell 1 _ rfl
  rw [adr_arr] at A1c1
  rw [hz1]
  go_wp2_with fail
  have hK := hid (fun (w' : World) (hw : Below (w2).heap.size w2 w') => (⟨by have := (A0O4.below hw).reads.cell 0 _ rfl; rwa [adr_arr] at this, by have := (A0O4.below hw).reads.cell 1 _ rfl; rwa [adr_arr] at this, by have := (A1O4.below hw).reads.cell 0 _ rfl; rwa [adr_arr] at this, by have := (A1O4.below hw).reads.cell 1 _ rfl; rwa [adr_arr] at this⟩ : w'.cell? ⟨(W.heap.size), 0, none⟩ = some (.int .i64 n0) ∧ w'.cell? ⟨(W.heap.size), 1, none⟩ = some (a0) ∧ w'.cell? ⟨(W.heap.size + 1), 0, none⟩ = some (.int .i64 n1) ∧ w'.cell? ⟨(W.heap.size + 1), 1, none⟩ = some (a1)))
  have hO_A0 := hid (fun (w' : World) (hw : Below (w2).heap.size w2 w') => A0O4.below hw)
  have hO_A1 := hid (fun (w' : World) (hw : Below (w2).heap.size w2 w') => A1O4.below hw)
  have hA := hid (fun (w' : World) (hw : Below (w2).heap.size w2 w') => (⟨h0.below (hb4.trans (hw.mono hb4.size)), h1.below (hb4.trans (hw.mono hb4.size)), trivial⟩ : Reads w' a0 (ints l0) ∧ Reads w' a1 (ints l1) ∧ True))
  clear A0O4 A1O4
  go_region_held3 (fun w' => Below (w2).heap.size w2 w' ∧ w'.cell? ⟨(W.heap.size), 0, none⟩ = some (.int .i64 n0) ∧ w'.cell? ⟨(W.heap.size), 1, none⟩ = some (a0) ∧ w'.cell? ⟨(W.heap.size + 1), 0, none⟩ = some (.int .i64 n1) ∧ w'.cell? ⟨(W.heap.size + 1), 1, none⟩ = some (a1)) (first | exact ⟨(Below.refl _ _).drew, hK.out _ (Below.refl _ _).drew⟩ | exact ⟨hbT, hK.out _ hbT⟩ | exact ⟨hba, hK.out _ hba⟩ | exact ⟨hbb, hK.out _ hbb⟩) ((first | (go_at_call_of 16 a0; refine (toB _ _ _ _ (by first | exact (hA.out _ hbb).1 | exact (hA.out _ (Below.refl _ _).drew).1) (by omega)).mono ?_; rintro e wa1 ⟨c0, rfl, hoa, hsa⟩; have hba : Below w2.heap.size w2 wa1 := by first | exact hbb.trans (hsa.mono hbb.size) | exact (Below.refl w2.heap.size w2).drew.trans (hsa.mono (by simp))) | (go_at_call_of 16 a1; refine (toB _ _ _ _ (by first | exact (hA.out _ hba).2.1 | exact (hA.out _ (Below.refl _ _).drew).2.1) (by omega)).mono ?_; rintro e wb1 ⟨c1, rfl, hob, hsb⟩; have hbb : Below w2.heap.size w2 wb1 := by first | exact hba.trans (hsb.mono hba.size) | exact (Below.refl w2.heap.size w2).drew.trans (hsb.mono (by simp))) | (go_at_call 15; refine (sb_spec _ _ _ _ _ _ _ (by first | exact hoa.reads | exact (hoa.below hsb).reads) (by first | exact hob.reads | exact (hob.below hsa).reads)).mono ?_; rintro e wz1 ⟨rfl, hsz⟩; have hbT : Below w2.heap.size w2 wz1 := by first | exact hba.trans (hsz.mono hba.size) | exact hbb.trans (hsz.mono hbb.size))))
  all_goals
    clear hoa hob hsa hsb hba hbb hsz hK
    have hb5 := hb4.trans (hbT.mono hb4.size)
    have A0O5 := hO_A0.out _ hbT
    have A1O5 := hO_A1.out _ hbT
    clear hA hO_A0 hO_A1 hb4
    have A0c0 := A0O5.reads.cell 0 _ rfl
    rw [adr_arr] at A0c0
    have A0c1 := A0O5.reads.cell 1 _ rfl
    rw [adr_arr] at A0c1
    have A1c0 := A1O5.reads.cell 0 _ rfl
    rw [adr_arr] at A1c0
    have A1c1 := A1O5.reads.cell 1 _ rfl
    rw [adr_arr] at A1c1
    clear hbT
    go_wp2_with fail
    refine (toB _ _ _ _ (h0.below hb5) (by omega)).mono ?_
    rintro e w3 ⟨x0, rfl, ho, hs⟩
    obtain ⟨x0a, x0c, rfl⟩ := ho.form'
    have ap_A0_x0 : Apart (arrV (W.heap.size) 2) (.slice x0a l0.length x0c) := apart_new A0O5 ho
    have ap_x0_A0 : Apart (.slice x0a l0.length x0c) (arrV (W.heap.size) 2) := apart_new' A0O5 ho
    have ap_A1_x0 : Apart (arrV (W.heap.size + 1) 2) (.slice x0a l0.length x0c) := apart_new A1O5 ho
    have ap_x0_A1 : Apart (.slice x0a l0.length x0c) (arrV (W.heap.size + 1) 2) := apart_new' A1O5 ho
    have x0O6 := ho.mono hb5.size
    have hb6 := hb5.trans (hs.mono hb5.size)
    have A0O6 := A0O5.below hs
    have A1O6 := A1O5.below hs
    clear hs hb5 A0O5 A1O5 ho
    have A0c0 := A0O6.reads.cell 0 _ rfl
    rw [adr_arr] at A0c0
    have A0c1 := A0O6.reads.cell 1 _ rfl
    rw [adr_arr] at A0c1
    have A1c0 := A1O6.reads.cell 0 _ rfl
    rw [adr_arr] at A1c0
    have A1c1 := A1O6.reads.cell 1 _ rfl
    rw [adr_arr] at A1c1
    have hnew := (own_arr w3 27 #[.int .i64 n0, (.slice x0a l0.length x0c)] 2 rfl (by omega) (Nat.le_refl _))
    have ap_A0_X0 := apart_new A0O6 hnew
    have ap_X0_A0 := apart_new' A0O6 hnew
    have ap_A1_X0 := apart_new A1O6 hnew
    have ap_X0_A1 := apart_new' A1O6 hnew
    have ap_x0_X0 := apart_new x0O6 hnew
    have ap_X0_x0 := apart_new' x0O6 hnew
    have hb7 := hb6.alloc hb6.size (.cells #[.int .i64 n0, (.slice x0a l0.length x0c)] 27)
    have A0O7 := own_alloc A0O6 (.cells #[.int .i64 n0, (.slice x0a l0.length x0c)] 27)
    have A1O7 := own_alloc A1O6 (.cells #[.int .i64 n0, (.slice x0a l0.length x0c)] 27)
    have x0O7 := own_alloc x0O6 (.cells #[.int .i64 n0, (.slice x0a l0.length x0c)] 27)
    have X0O7 := hnew.mono hb6.size
    clear hnew hb6 A0O6 A1O6 x0O6
    have A0c0 := A0O7.reads.cell 0 _ rfl
    rw [adr_arr] at A0c0
    have A0c1 := A0O7.reads.cell 1 _ rfl
    rw [adr_arr] at A0c1
    have A1c0 := A1O7.reads.cell 0 _ rfl
    rw [adr_arr] at A1c0
    have A1c1 := A1O7.reads.cell 1 _ rfl
    rw [adr_arr] at A1c1
    have X0c0 := X0O7.reads.cell 0 _ rfl
    rw [adr_arr] at X0c0
    have X0c1 := X0O7.reads.cell 1 _ rfl
    rw [adr_arr] at X0c1
    go_wp2_with fail
    refine (toB _ _ _ _ (h1.below hb7) (by omega)).mono ?_
    rintro e w4 ⟨x1, rfl, ho, hs⟩
    obtain ⟨x1a, x1c, rfl⟩ := ho.form'
    have ap_A0_x1 : Apart (arrV (W.heap.size) 2) (.slice x1a l1.length x1c) := apart_new A0O7 ho
    have ap_x1_A0 : Apart (.slice x1a l1.length x1c) (arrV (W.heap.size) 2) := apart_new' A0O7 ho
    have ap_A1_x1 : Apart (arrV (W.heap.size + 1) 2) (.slice x1a l1.length x1c) := apart_new A1O7 ho
    have ap_x1_A1 : Apart (.slice x1a l1.length x1c) (arrV (W.heap.size + 1) 2) := apart_new' A1O7 ho
    have ap_x0_x1 : Apart (.slice x0a l0.length x0c) (.slice x1a l1.length x1c) := apart_new x0O7 ho
    have ap_x1_x0 : Apart (.slice x1a l1.length x1c) (.slice x0a l0.length x0c) := apart_new' x0O7 ho
    have ap_X0_x1 : Apart (arrV (w3.heap.size) 2) (.slice x1a l1.length x1c) := apart_new X0O7 ho
    have ap_x1_X0 : Apart (.slice x1a l1.length x1c) (arrV (w3.heap.size) 2) := apart_new' X0O7 ho
    have x1O8 := ho.mono hb7.size
    have hb8 := hb7.trans (hs.mono hb7.size)
    have A0O8 := A0O7.below hs
    have A1O8 := A1O7.below hs
    have x0O8 := x0O7.below hs
    have X0O8 := X0O7.below hs
    clear hs hb7 A0O7 A1O7 x0O7 X0O7 ho
    have A0c0 := A0O8.reads.cell 0 _ rfl
    rw [adr_arr] at A0c0
    have A0c1 := A0O8.reads.cell 1 _ rfl
    rw [adr_arr] at A0c1
    have A1c0 := A1O8.reads.cell 0 _ rfl
    rw [adr_arr] at A1c0
    have A1c1 := A1O8.reads.cell 1 _ rfl
    rw [adr_arr] at A1c1
    have X0c0 := X0O8.reads.cell 0 _ rfl
    rw [adr_arr] at X0c0
    have X0c1 := X0O8.reads.cell 1 _ rfl
    rw [adr_arr] at X0c1
    have hnew := (own_arr w4 27 #[.int .i64 n1, (.slice x1a l1.length x1c)] 2 rfl (by omega) (Nat.le_refl _))
    have ap_A0_X1 := apart_new A0O8 hnew
    have ap_X1_A0 := apart_new' A0O8 hnew
    have ap_A1_X1 := apart_new A1O8 hnew
    have ap_X1_A1 := apart_new' A1O8 hnew
    have ap_x0_X1 := apart_new x0O8 hnew
    have ap_X1_x0 := apart_new' x0O8 hnew
    have ap_X0_X1 := apart_new X0O8 hnew
    have ap_X1_X0 := apart_new' X0O8 hnew
    have ap_x1_X1 := apart_new x1O8 hnew
    have ap_X1_x1 := apart_new' x1O8 hnew
    have hb9 := hb8.alloc hb8.size (.cells #[.int .i64 n1, (.slice x1a l1.length x1c)] 27)
    have A0O9 := own_alloc A0O8 (.cells #[.int .i64 n1, (.slice x1a l1.length x1c)] 27)
    have A1O9 := own_alloc A1O8 (.cells #[.int .i64 n1, (.slice x1a l1.length x1c)] 27)
    have x0O9 := own_alloc x0O8 (.cells #[.int .i64 n1, (.slice x1a l1.length x1c)] 27)
    have X0O9 := own_alloc X0O8 (.cells #[.int .i64 n1, (.slice x1a l1.length x1c)] 27)
    have x1O9 := own_alloc x1O8 (.cells #[.int .i64 n1, (.slice x1a l1.length x1c)] 27)
    have X1O9 := hnew.mono hb8.size
    clear hnew hb8 A0O8 A1O8 x0O8 X0O8 x1O8
    have A0c0 := A0O9.reads.cell 0 _ rfl
    rw [adr_arr] at A0c0
    have A0c1 := A0O9.reads.cell 1 _ rfl
    rw [adr_arr] at A0c1
    have A1c0 := A1O9.reads.cell 0 _ rfl
    rw [adr_arr] at A1c0
    have A1c1 := A1O9.reads.cell 1 _ rfl
    rw [adr_arr] at A1c1
    have X0c0 := X0O9.reads.cell 0 _ rfl
    rw [adr_arr] at X0c0
    have X0c1 := X0O9.reads.cell 1 _ rfl
    rw [adr_arr] at X0c1
    have X1c0 := X1O9.reads.cell 0 _ rfl
    rw [adr_arr] at X1c0
    have X1c1 := X1O9.reads.cell 1 _ rfl
    rw [adr_arr] at X1c1
    go_wp2_with fail
    refine (sb_impl _ _ _ _ _ _ _ x0O9.reads x1O9.reads).mono ?_
    rintro e w5 ⟨rfl, hs⟩
    have hb10 := hb9.trans (hs.mono hb9.size)
    have A0O10 := A0O9.below hs
    have A1O10 := A1O9.below hs
    have x0O10 := x0O9.below hs
    have X0O10 := X0O9.below hs
    have x1O10 := x1O9.below hs
    have X1O10 := X1O9.below hs
    clear hs hb9 A0O9 A1O9 x0O9 X0O9 x1O9 X1O9
    have A0c0 := A0O10.reads.cell 0 _ rfl
    rw [adr_arr] at A0c0
    have A0c1 := A0O10.reads.cell 1 _ rfl
    rw [adr_arr] at A0c1
    have A1c0 := A1O10.reads.cell 0 _ rfl
    rw [adr_arr] at A1c0
    have A1c1 := A1O10.reads.cell 1 _ rfl
    rw [adr_arr] at A1c1
    have X0c0 := X0O10.reads.cell 0 _ rfl
    rw [adr_arr] at X0c0
    have X0c1 := X0O10.reads.cell 1 _ rfl
    rw [adr_arr] at X0c1
    have X1c0 := X1O10.reads.cell 0 _ rfl
    rw [adr_arr] at X1c0
    have X1c1 := X1O10.reads.cell 1 _ rfl
    rw [adr_arr] at X1c1
    go_wp2_with fail
    have hK := hid (fun (w' : World) (hw : Below (w5).heap.size w5 w') => (⟨by have := (A0O10.below hw).reads.cell 0 _ rfl; rwa [adr_arr] at this, by have := (A0O10.below hw).reads.cell 1 _ rfl; rwa [adr_arr] at this, by have := (X0O10.below hw).reads.cell 0 _ rfl; rwa [adr_arr] at this, by have := (X0O10.below hw).reads.cell 1 _ rfl; rwa [adr_arr] at this⟩ : w'.cell? ⟨(W.heap.size), 0, none⟩ = some (.int .i64 n0) ∧ w'.cell? ⟨(W.heap.size), 1, none⟩ = some (a0) ∧ w'.cell? ⟨(w3.heap.size), 0, none⟩ = some (.int .i64 n0) ∧ w'.cell? ⟨(w3.heap.size), 1, none⟩ = some ((.slice x0a l0.length x0c))))
    have hO_A0 := hid (fun (w' : World) (hw : Below (w5).heap.size w5 w') => A0O10.below hw)
    have hO_A1 := hid (fun (w' : World) (hw : Below (w5).heap.size w5 w') => A1O10.below hw)
    have hO_x0 := hid (fun (w' : World) (hw : Below (w5).heap.size w5 w') => x0O10.below hw)
    have hO_X0 := hid (fun (w' : World) (hw : Below (w5).heap.size w5 w') => X0O10.below hw)
    have hO_x1 := hid (fun (w' : World) (hw : Below (w5).heap.size w5 w') => x1O10.below hw)
    have hO_X1 := hid (fun (w' : World) (hw : Below (w5).heap.size w5 w') => X1O10.below hw)
    have hA := hid (fun (w' : World) (hw : Below (w5).heap.size w5 w') => (⟨h0.below (hb10.trans (hw.mono hb10.size)), h1.below (hb10.trans (hw.mono hb10.size)), trivial⟩ : Reads w' a0 (ints l0) ∧ Reads w' a1 (ints l1) ∧ True))
    clear A0O10 A1O10 x0O10 X0O10 x1O10 X1O10
    go_region_held3 (fun w' => Below (w5).heap.size w5 w' ∧ w'.cell? ⟨(W.heap.size), 0, none⟩ = some (.int .i64 n0) ∧ w'.cell? ⟨(W.heap.size), 1, none⟩ = some (a0) ∧ w'.cell? ⟨(w3.heap.size), 0, none⟩ = some (.int .i64 n0) ∧ w'.cell? ⟨(w3.heap.size), 1, none⟩ = some ((.slice x0a l0.length x0c))) (first | exact ⟨(Below.refl _ _).drew, hK.out _ (Below.refl _ _).drew⟩ | exact ⟨hbT, hK.out _ hbT⟩ | exact ⟨hbS, hK.out _ hbS⟩) ((first | (go_at_call 16; refine (toB _ _ _ _ (hA.out _ (Below.refl _ _).drew).1 (by omega)).mono ?_; rintro e wy2 ⟨y2, rfl, hoy, hsy⟩; have hbS := (Below.refl w5.heap.size w5).drew.trans (hsy.mono (by simp))) | (go_at_call 18; refine (eqB _ _ _ _ _ _ _ (hO_x0.out _ hbS).reads hoy.reads).mono ?_; rintro e wz2 ⟨rfl, hsz⟩; have hbT := hbS.trans (hsz.mono hbS.size); rw [show (n0 == n0 && decide (l0 = l0)) = true by simp])))
    have hb11 := hb10.trans (hbT.mono hb10.size)
    have A0O11 := hO_A0.out _ hbT
    have A1O11 := hO_A1.out _ hbT
    have x0O11 := hO_x0.out _ hbT
    have X0O11 := hO_X0.out _ hbT
    have x1O11 := hO_x1.out _ hbT
    have X1O11 := hO_X1.out _ hbT
    clear hA hO_A0 hO_A1 hO_x0 hO_X0 hO_x1 hO_X1 hb10
    have A0c0 := A0O11.reads.cell 0 _ rfl
    rw [adr_arr] at A0c0
    have A0c1 := A0O11.reads.cell 1 _ rfl
    rw [adr_arr] at A0c1
    have A1c0 := A1O11.reads.cell 0 _ rfl
    rw [adr_arr] at A1c0
    have A1c1 := A1O11.reads.cell 1 _ rfl
    rw [adr_arr] at A1c1
    have X0c0 := X0O11.reads.cell 0 _ rfl
    rw [adr_arr] at X0c0
    have X0c1 := X0O11.reads.cell 1 _ rfl
    rw [adr_arr] at X0c1
    have X1c0 := X1O11.reads.cell 0 _ rfl
    rw [adr_arr] at X1c0
    have X1c1 := X1O11.reads.cell 1 _ rfl
    rw [adr_arr] at X1c1
    clear hbT hbS hsz hsy hoy hK
    go_wp2_with fail
    have hK := hid (fun (w' : World) (hw : Below (wz2).heap.size wz2 w') => (⟨by have := (A1O11.below hw).reads.cell 0 _ rfl; rwa [adr_arr] at this, by have := (A1O11.below hw).reads.cell 1 _ rfl; rwa [adr_arr] at this, by have := (X1O11.below hw).reads.cell 0 _ rfl; rwa [adr_arr] at this, by have := (X1O11.below hw).reads.cell 1 _ rfl; rwa [adr_arr] at this⟩ : w'.cell? ⟨(W.heap.size + 1), 0, none⟩ = some (.int .i64 n1) ∧ w'.cell? ⟨(W.heap.size + 1), 1, none⟩ = some (a1) ∧ w'.cell? ⟨(w4.heap.size), 0, none⟩ = some (.int .i64 n1) ∧ w'.cell? ⟨(w4.heap.size), 1, none⟩ = some ((.slice x1a l1.length x1c))))
    have hO_A0 := hid (fun (w' : World) (hw : Below (wz2).heap.size wz2 w') => A0O11.below hw)
    have hO_A1 := hid (fun (w' : World) (hw : Below (wz2).heap.size wz2 w') => A1O11.below hw)
    have hO_x0 := hid (fun (w' : World) (hw : Below (wz2).heap.size wz2 w') => x0O11.below hw)
    have hO_X0 := hid (fun (w' : World) (hw : Below (wz2).heap.size wz2 w') => X0O11.below hw)
    have hO_x1 := hid (fun (w' : World) (hw : Below (wz2).heap.size wz2 w') => x1O11.below hw)
    have hO_X1 := hid (fun (w' : World) (hw : Below (wz2).heap.size wz2 w') => X1O11.below hw)
    have hA := hid (fun (w' : World) (hw : Below (wz2).heap.size wz2 w') => (⟨h0.below (hb11.trans (hw.mono hb11.size)), h1.below (hb11.trans (hw.mono hb11.size)), trivial⟩ : Reads w' a0 (ints l0) ∧ Reads w' a1 (ints l1) ∧ True))
    clear A0O11 A1O11 x0O11 X0O11 x1O11 X1O11
    go_region_held3 (fun w' => Below (wz2).heap.size wz2 w' ∧ w'.cell? ⟨(W.heap.size + 1), 0, none⟩ = some (.int .i64 n1) ∧ w'.cell? ⟨(W.heap.size + 1), 1, none⟩ = some (a1) ∧ w'.cell? ⟨(w4.heap.size), 0, none⟩ = some (.int .i64 n1) ∧ w'.cell? ⟨(w4.heap.size), 1, none⟩ = some ((.slice x1a l1.length x1c))) (first | exact ⟨(Below.refl _ _).drew, hK.out _ (Below.refl _ _).drew⟩ | exact ⟨hbT, hK.out _ hbT⟩ | exact ⟨hbS, hK.out _ hbS⟩) ((first | (go_at_call 16; refine (toB _ _ _ _ (hA.out _ (Below.refl _ _).drew).2.1 (by omega)).mono ?_; rintro e wy3 ⟨y3, rfl, hoy, hsy⟩; have hbS := (Below.refl wz2.heap.size wz2).drew.trans (hsy.mono (by simp))) | (go_at_call 18; refine (eqB _ _ _ _ _ _ _ (hO_x1.out _ hbS).reads hoy.reads).mono ?_; rintro e wz3 ⟨rfl, hsz⟩; have hbT := hbS.trans (hsz.mono hbS.size); rw [show (n1 == n1 && decide (l1 = l1)) = true by simp])))
    have hb12 := hb11.trans (hbT.mono hb11.size)
    have A0O12 := hO_A0.out _ hbT
    have A1O12 := hO_A1.out _ hbT
    have x0O12 := hO_x0.out _ hbT
    have X0O12 := hO_X0.out _ hbT
    have x1O12 := hO_x1.out _ hbT
    have X1O12 := hO_X1.out _ hbT
    clear hA hO_A0 hO_A1 hO_x0 hO_X0 hO_x1 hO_X1 hb11
    have A0c0 := A0O12.reads.cell 0 _ rfl
    rw [adr_arr] at A0c0
    have A0c1 := A0O12.reads.cell 1 _ rfl
    rw [adr_arr] at A0c1
    have A1c0 := A1O12.reads.cell 0 _ rfl
    rw [adr_arr] at A1c0
    have A1c1 := A1O12.reads.cell 1 _ rfl
    rw [adr_arr] at A1c1
    have X0c0 := X0O12.reads.cell 0 _ rfl
    rw [adr_arr] at X0c0
    have X0c1 := X0O12.reads.cell 1 _ rfl
    rw [adr_arr] at X0c1
    have X1c0 := X1O12.reads.cell 0 _ rfl
    rw [adr_arr] at X1c0
    have X1c1 := X1O12.reads.cell 1 _ rfl
    rw [adr_arr] at X1c1
    clear hbT hbS hsz hsy hoy hK
    go_wp2_with fail
    go_ret
    exact ⟨rfl, hb12⟩


end Go.Proofs.Ytoomkkeffejcdaa
