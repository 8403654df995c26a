/- Walks of the exact laws that turn one braid into another. -/
import Derived.Test.YtoomkkeffejcdaaLb2
import Derived.Test.YtoomkkeffejcdaaBrf
namespace Go.Proofs.Ytoomkkeffejcdaa
open Go.RowKit

set_option maxHeartbeats 4000000 in
theorem walk_FnExactInvertBraid (n0 : Int) (a0 : Value) (l0 : List Int) (W : World) (h0 : Reads W a0 (ints l0)) :
    Calls Try.prog 6 #[.agg #[.int .i64 n0, a0]] W fun e w' => e = .returned (.bool true) ∧ Below W.heap.size W w' := by
  have hs0 := h0.small
  simp only [length_ints] at hs0
  by_cases hl0 : (1048576 : Int) - (l0.length : Int) < 0
  · have hz := szN_no hl0
    go_enter Try.func6, Try.ntmps6
    have hb0 : Below W.heap.size W W := Below.refl _ _
    have hnew := (own_arr W 24 #[.int .i64 n0, a0] 2 rfl (by omega) (Nat.le_refl _))
    have hb1 := hb0.alloc hb0.size (.cells #[.int .i64 n0, a0] 24)
    have A0O1 := hnew.mono hb0.size
    clear hnew hb0
    have A0c0 := A0O1.reads.cell 0 _ rfl
    rw [adr_arr] at A0c0
    have A0c1 := A0O1.reads.cell 1 _ rfl
    rw [adr_arr] at A0c1
    go_wp2_with fail
    refine (szB _ _ _ (1048576) _ (h0.below hb1) (by omega) (by omega)).mono ?_
    rintro e w1 ⟨rfl, hs⟩
    have hb2 := hb1.trans (hs.mono hb1.size)
    have A0O2 := A0O1.below hs
    clear hs hb1 A0O1
    have A0c0 := A0O2.reads.cell 0 _ rfl
    rw [adr_arr] at A0c0
    have A0c1 := A0O2.reads.cell 1 _ rfl
    rw [adr_arr] at A0c1
    rw [hz]
    go_wp2_with fail
    go_ret
    exact ⟨rfl, hb2⟩
  have hz := szN_yes hl0
  have hL : (okL n0 l0 (invW l0)).length ≤ 1048576 := by
    unfold okL
    split
    · rw [length_invW]; omega
    · simp
  have hspec := hid (fun (v : Value) (w : World) (h : Reads w v (ints l0)) => vinv_spec n0 v l0 w h)
  have himpl := hid (fun (v : Value) (w : World) (h : Reads w v (ints l0)) => vinv_impl n0 v l0 w h)
  generalize okL n0 l0 (invW l0) = L at *
  generalize okN n0 l0 = N at *
  go_enter Try.func6, Try.ntmps6
  have hb0 : Below W.heap.size W W := Below.refl _ _
  have hnew := (own_arr W 24 #[.int .i64 n0, a0] 2 rfl (by omega) (Nat.le_refl _))
  have hb1 := hb0.alloc hb0.size (.cells #[.int .i64 n0, a0] 24)
  have A0O1 := hnew.mono hb0.size
  clear hnew hb0
  have A0c0 := A0O1.reads.cell 0 _ rfl
  rw [adr_arr] at A0c0
  have A0c1 := A0O1.reads.cell 1 _ rfl
  rw [adr_arr] at A0c1
  go_wp2_with fail
  refine (szB _ _ _ (1048576) _ (h0.below hb1) (by omega) (by omega)).mono ?_
  rintro e w1 ⟨rfl, hs⟩
  have hb2 := hb1.trans (hs.mono hb1.size)
  have A0O2 := A0O1.below hs
  clear hs hb1 A0O1
  have A0c0 := A0O2.reads.cell 0 _ rfl
  rw [adr_arr] at A0c0
  have A0c1 := A0O2.reads.cell 1 _ rfl
  rw [adr_arr] at A0c1
  rw [hz]
  go_wp2_with fail
  refine (toB _ _ _ _ (h0.below hb2) (by omega)).mono ?_
  rintro e w2 ⟨c0, rfl, ho, hs⟩
  obtain ⟨c0a, c0c, rfl⟩ := ho.form'
  have ap_A0_c0 : Apart (arrV (W.heap.size) 2) (.slice c0a l0.length c0c) := apart_new A0O2 ho
  have ap_c0_A0 : Apart (.slice c0a l0.length c0c) (arrV (W.heap.size) 2) := apart_new' A0O2 ho
  have c0O3 := ho.mono hb2.size
  have hb3 := hb2.trans (hs.mono hb2.size)
  have A0O3 := A0O2.below hs
  clear hs hb2 A0O2 ho
  have A0c0 := A0O3.reads.cell 0 _ rfl
  rw [adr_arr] at A0c0
  have A0c1 := A0O3.reads.cell 1 _ rfl
  rw [adr_arr] at A0c1
  go_wp2_with fail
  refine (hspec.out _ _ c0O3.reads).mono ?_
  rintro e w3 ⟨v0, rfl, ho, hs⟩
  obtain ⟨v0a, v0n, v0c, rfl⟩ := ho.form3
  have ap_A0_v0 : Apart (arrV (W.heap.size) 2) (.slice v0a v0n v0c) := apart_new A0O3 ho
  have ap_v0_A0 : Apart (.slice v0a v0n v0c) (arrV (W.heap.size) 2) := apart_new' A0O3 ho
  have ap_c0_v0 : Apart (.slice c0a l0.length c0c) (.slice v0a v0n v0c) := apart_new c0O3 ho
  have ap_v0_c0 : Apart (.slice v0a v0n v0c) (.slice c0a l0.length c0c) := apart_new' c0O3 ho
  have v0O4 := ho.mono hb3.size
  have hb4 := hb3.trans (hs.mono hb3.size)
  have A0O4 := A0O3.below hs
  have c0O4 := c0O3.below hs
  clear hs hb3 A0O3 c0O3 ho
  have A0c0 := A0O4.reads.cell 0 _ rfl
  rw [adr_arr] at A0c0
  have A0c1 := A0O4.reads.cell 1 _ rfl
  rw [adr_arr] at A0c1
  have hnew := (own_arr w3 27 #[.int .i64 N, (.slice v0a v0n v0c)] 2 rfl (by omega) (Nat.le_refl _))
  have ap_A0_V0 := apart_new A0O4 hnew
  have ap_V0_A0 := apart_new' A0O4 hnew
  have ap_c0_V0 := apart_new c0O4 hnew
  have ap_V0_c0 := apart_new' c0O4 hnew
  have ap_v0_V0 := apart_new v0O4 hnew
  have ap_V0_v0 := apart_new' v0O4 hnew
  have hb5 := hb4.alloc hb4.size (.cells #[.int .i64 N, (.slice v0a v0n v0c)] 27)
  have A0O5 := own_alloc A0O4 (.cells #[.int .i64 N, (.slice v0a v0n v0c)] 27)
  have c0O5 := own_alloc c0O4 (.cells #[.int .i64 N, (.slice v0a v0n v0c)] 27)
  have v0O5 := own_alloc v0O4 (.cells #[.int .i64 N, (.slice v0a v0n v0c)] 27)
  have V0O5 := hnew.mono hb4.size
  clear hnew hb4 A0O4 c0O4 v0O4
  have A0c0 := A0O5.reads.cell 0 _ rfl
  rw [adr_arr] at A0c0
  have A0c1 := A0O5.reads.cell 1 _ rfl
  rw [adr_arr] at A0c1
  have V0c0 := V0O5.reads.cell 0 _ rfl
  rw [adr_arr] at V0c0
  have V0c1 := V0O5.reads.cell 1 _ rfl
  rw [adr_arr] at V0c1
  go_wp2_with fail
  refine (toB _ _ _ _ (h0.below hb5) (by omega)).mono ?_
  rintro e w4 ⟨x0, rfl, ho, hs⟩
  obtain ⟨x0a, x0c, rfl⟩ := ho.form'
  have ap_A0_x0 : Apart (arrV (W.heap.size) 2) (.slice x0a l0.length x0c) := apart_new A0O5 ho
  have ap_x0_A0 : Apart (.slice x0a l0.length x0c) (arrV (W.heap.size) 2) := apart_new' A0O5 ho
  have ap_c0_x0 : Apart (.slice c0a l0.length c0c) (.slice x0a l0.length x0c) := apart_new c0O5 ho
  have ap_x0_c0 : Apart (.slice x0a l0.length x0c) (.slice c0a l0.length c0c) := apart_new' c0O5 ho
  have ap_v0_x0 : Apart (.slice v0a v0n v0c) (.slice x0a l0.length x0c) := apart_new v0O5 ho
  have ap_x0_v0 : Apart (.slice x0a l0.length x0c) (.slice v0a v0n v0c) := apart_new' v0O5 ho
  have ap_V0_x0 : Apart (arrV (w3.heap.size) 2) (.slice x0a l0.length x0c) := apart_new V0O5 ho
  have ap_x0_V0 : Apart (.slice x0a l0.length x0c) (arrV (w3.heap.size) 2) := apart_new' V0O5 ho
  have x0O6 := ho.mono hb5.size
  have hb6 := hb5.trans (hs.mono hb5.size)
  have A0O6 := A0O5.below hs
  have c0O6 := c0O5.below hs
  have v0O6 := v0O5.below hs
  have V0O6 := V0O5.below hs
  clear hs hb5 A0O5 c0O5 v0O5 V0O5 ho
  have A0c0 := A0O6.reads.cell 0 _ rfl
  rw [adr_arr] at A0c0
  have A0c1 := A0O6.reads.cell 1 _ rfl
  rw [adr_arr] at A0c1
  have V0c0 := V0O6.reads.cell 0 _ rfl
  rw [adr_arr] at V0c0
  have V0c1 := V0O6.reads.cell 1 _ rfl
  rw [adr_arr] at V0c1
  have hnew := (own_arr w4 27 #[.int .i64 n0, (.slice x0a l0.length x0c)] 2 rfl (by omega) (Nat.le_refl _))
  have ap_A0_X0 := apart_new A0O6 hnew
  have ap_X0_A0 := apart_new' A0O6 hnew
  have ap_c0_X0 := apart_new c0O6 hnew
  have ap_X0_c0 := apart_new' c0O6 hnew
  have ap_v0_X0 := apart_new v0O6 hnew
  have ap_X0_v0 := apart_new' v0O6 hnew
  have ap_V0_X0 := apart_new V0O6 hnew
  have ap_X0_V0 := apart_new' V0O6 hnew
  have ap_x0_X0 := apart_new x0O6 hnew
  have ap_X0_x0 := apart_new' x0O6 hnew
  have hb7 := hb6.alloc hb6.size (.cells #[.int .i64 n0, (.slice x0a l0.length x0c)] 27)
  have A0O7 := own_alloc A0O6 (.cells #[.int .i64 n0, (.slice x0a l0.length x0c)] 27)
  have c0O7 := own_alloc c0O6 (.cells #[.int .i64 n0, (.slice x0a l0.length x0c)] 27)
  have v0O7 := own_alloc v0O6 (.cells #[.int .i64 n0, (.slice x0a l0.length x0c)] 27)
  have V0O7 := own_alloc V0O6 (.cells #[.int .i64 n0, (.slice x0a l0.length x0c)] 27)
  have x0O7 := own_alloc x0O6 (.cells #[.int .i64 n0, (.slice x0a l0.length x0c)] 27)
  have X0O7 := hnew.mono hb6.size
  clear hnew hb6 A0O6 c0O6 v0O6 V0O6 x0O6
  have A0c0 := A0O7.reads.cell 0 _ rfl
  rw [adr_arr] at A0c0
  have A0c1 := A0O7.reads.cell 1 _ rfl
  rw [adr_arr] at A0c1
  have V0c0 := V0O7.reads.cell 0 _ rfl
  rw [adr_arr] at V0c0
  have V0c1 := V0O7.reads.cell 1 _ rfl
  rw [adr_arr] at V0c1
  have X0c0 := X0O7.reads.cell 0 _ rfl
  rw [adr_arr] at X0c0
  have X0c1 := X0O7.reads.cell 1 _ rfl
  rw [adr_arr] at X0c1
  go_wp2_with fail
  refine (himpl.out _ _ x0O7.reads).mono ?_
  rintro e w5 ⟨g0, rfl, ho, hs⟩
  obtain ⟨g0a, g0n, g0c, rfl⟩ := ho.form3
  have ap_A0_g0 : Apart (arrV (W.heap.size) 2) (.slice g0a g0n g0c) := apart_new A0O7 ho
  have ap_g0_A0 : Apart (.slice g0a g0n g0c) (arrV (W.heap.size) 2) := apart_new' A0O7 ho
  have ap_c0_g0 : Apart (.slice c0a l0.length c0c) (.slice g0a g0n g0c) := apart_new c0O7 ho
  have ap_g0_c0 : Apart (.slice g0a g0n g0c) (.slice c0a l0.length c0c) := apart_new' c0O7 ho
  have ap_v0_g0 : Apart (.slice v0a v0n v0c) (.slice g0a g0n g0c) := apart_new v0O7 ho
  have ap_g0_v0 : Apart (.slice g0a g0n g0c) (.slice v0a v0n v0c) := apart_new' v0O7 ho
  have ap_V0_g0 : Apart (arrV (w3.heap.size) 2) (.slice g0a g0n g0c) := apart_new V0O7 ho
  have ap_g0_V0 : Apart (.slice g0a g0n g0c) (arrV (w3.heap.size) 2) := apart_new' V0O7 ho
  have ap_x0_g0 : Apart (.slice x0a l0.length x0c) (.slice g0a g0n g0c) := apart_new x0O7 ho
  have ap_g0_x0 : Apart (.slice g0a g0n g0c) (.slice x0a l0.length x0c) := apart_new' x0O7 ho
  have ap_X0_g0 : Apart (arrV (w4.heap.size) 2) (.slice g0a g0n g0c) := apart_new X0O7 ho
  have ap_g0_X0 : Apart (.slice g0a g0n g0c) (arrV (w4.heap.size) 2) := apart_new' X0O7 ho
  have g0O8 := ho.mono hb7.size
  have hb8 := hb7.trans (hs.mono hb7.size)
  have A0O8 := A0O7.below hs
  have c0O8 := c0O7.below hs
  have v0O8 := v0O7.below hs
  have V0O8 := V0O7.below hs
  have x0O8 := x0O7.below hs
  have X0O8 := X0O7.below hs
  clear hs hb7 A0O7 c0O7 v0O7 V0O7 x0O7 X0O7 ho
  have A0c0 := A0O8.reads.cell 0 _ rfl
  rw [adr_arr] at A0c0
  have A0c1 := A0O8.reads.cell 1 _ rfl
  rw [adr_arr] at A0c1
  have V0c0 := V0O8.reads.cell 0 _ rfl
  rw [adr_arr] at V0c0
  have V0c1 := V0O8.reads.cell 1 _ rfl
  rw [adr_arr] at V0c1
  have X0c0 := X0O8.reads.cell 0 _ rfl
  rw [adr_arr] at X0c0
  have X0c1 := X0O8.reads.cell 1 _ rfl
  rw [adr_arr] at X0c1
  have hnew := (own_arr w5 27 #[.int .i64 N, (.slice g0a g0n g0c)] 2 rfl (by omega) (Nat.le_refl _))
  have ap_A0_G0 := apart_new A0O8 hnew
  have ap_G0_A0 := apart_new' A0O8 hnew
  have ap_c0_G0 := apart_new c0O8 hnew
  have ap_G0_c0 := apart_new' c0O8 hnew
  have ap_v0_G0 := apart_new v0O8 hnew
  have ap_G0_v0 := apart_new' v0O8 hnew
  have ap_V0_G0 := apart_new V0O8 hnew
  have ap_G0_V0 := apart_new' V0O8 hnew
  have ap_x0_G0 := apart_new x0O8 hnew
  have ap_G0_x0 := apart_new' x0O8 hnew
  have ap_X0_G0 := apart_new X0O8 hnew
  have ap_G0_X0 := apart_new' X0O8 hnew
  have ap_g0_G0 := apart_new g0O8 hnew
  have ap_G0_g0 := apart_new' g0O8 hnew
  have hb9 := hb8.alloc hb8.size (.cells #[.int .i64 N, (.slice g0a g0n g0c)] 27)
  have A0O9 := own_alloc A0O8 (.cells #[.int .i64 N, (.slice g0a g0n g0c)] 27)
  have c0O9 := own_alloc c0O8 (.cells #[.int .i64 N, (.slice g0a g0n g0c)] 27)
  have v0O9 := own_alloc v0O8 (.cells #[.int .i64 N, (.slice g0a g0n g0c)] 27)
  have V0O9 := own_alloc V0O8 (.cells #[.int .i64 N, (.slice g0a g0n g0c)] 27)
  have x0O9 := own_alloc x0O8 (.cells #[.int .i64 N, (.slice g0a g0n g0c)] 27)
  have X0O9 := own_alloc X0O8 (.cells #[.int .i64 N, (.slice g0a g0n g0c)] 27)
  have g0O9 := own_alloc g0O8 (.cells #[.int .i64 N, (.slice g0a g0n g0c)] 27)
  have G0O9 := hnew.mono hb8.size
  clear hnew hb8 A0O8 c0O8 v0O8 V0O8 x0O8 X0O8 g0O8
  have A0c0 := A0O9.reads.cell 0 _ rfl
  rw [adr_arr] at A0c0
  have A0c1 := A0O9.reads.cell 1 _ rfl
  rw [adr_arr] at A0c1
  have V0c0 := V0O9.reads.cell 0 _ rfl
  rw [adr_arr] at V0c0
  have V0c1 := V0O9.reads.cell 1 _ rfl
  rw [adr_arr] at V0c1
  have X0c0 := X0O9.reads.cell 0 _ rfl
  rw [adr_arr] at X0c0
  have X0c1 := X0O9.reads.cell 1 _ rfl
  rw [adr_arr] at X0c1
  have G0c0 := G0O9.reads.cell 0 _ rfl
  rw [adr_arr] at G0c0
  have G0c1 := G0O9.reads.cell 1 _ rfl
  rw [adr_arr] at G0c1
  go_wp2_with fail
  refine (eqB _ _ _ _ _ _ _ g0O9.reads v0O9.reads).mono ?_
  rintro e w6 ⟨rfl, hs⟩
  have hb10 := hb9.trans (hs.mono hb9.size)
  have A0O10 := A0O9.below hs
  have c0O10 := c0O9.below hs
  have v0O10 := v0O9.below hs
  have V0O10 := V0O9.below hs
  have x0O10 := x0O9.below hs
  have X0O10 := X0O9.below hs
  have g0O10 := g0O9.below hs
  have G0O10 := G0O9.below hs
  clear hs hb9 A0O9 c0O9 v0O9 V0O9 x0O9 X0O9 g0O9 G0O9
  have A0c0 := A0O10.reads.cell 0 _ rfl
  rw [adr_arr] at A0c0
  have A0c1 := A0O10.reads.cell 1 _ rfl
  rw [adr_arr] at A0c1
  have V0c0 := V0O10.reads.cell 0 _ rfl
  rw [adr_arr] at V0c0
  have V0c1 := V0O10.reads.cell 1 _ rfl
  rw [adr_arr] at V0c1
  have X0c0 := X0O10.reads.cell 0 _ rfl
  rw [adr_arr] at X0c0
  have X0c1 := X0O10.reads.cell 1 _ rfl
  rw [adr_arr] at X0c1
  have G0c0 := G0O10.reads.cell 0 _ rfl
  rw [adr_arr] at G0c0
  have G0c1 := G0O10.reads.cell 1 _ rfl
  rw [adr_arr] at G0c1
  rw [show (N == N && decide (L = L)) = true by simp]
  go_wp2_with fail
  have hK := hid (fun (w' : World) (hw : Below (w6).heap.size w6 w') => (⟨by have := (A0O10.below hw).reads.cell 0 _ rfl; rwa [adr_arr] at this, by have := (A0O10.below hw).reads.cell 1 _ rfl; rwa [adr_arr] at this, by have := (X0O10.below hw).reads.cell 0 _ rfl; rwa [adr_arr] at this, by have := (X0O10.below hw).reads.cell 1 _ rfl; rwa [adr_arr] at this⟩ : w'.cell? ⟨(W.heap.size), 0, none⟩ = some (.int .i64 n0) ∧ w'.cell? ⟨(W.heap.size), 1, none⟩ = some (a0) ∧ w'.cell? ⟨(w4.heap.size), 0, none⟩ = some (.int .i64 n0) ∧ w'.cell? ⟨(w4.heap.size), 1, none⟩ = some ((.slice x0a l0.length x0c))))
  have hO_A0 := hid (fun (w' : World) (hw : Below (w6).heap.size w6 w') => A0O10.below hw)
  have hO_c0 := hid (fun (w' : World) (hw : Below (w6).heap.size w6 w') => c0O10.below hw)
  have hO_v0 := hid (fun (w' : World) (hw : Below (w6).heap.size w6 w') => v0O10.below hw)
  have hO_V0 := hid (fun (w' : World) (hw : Below (w6).heap.size w6 w') => V0O10.below hw)
  have hO_x0 := hid (fun (w' : World) (hw : Below (w6).heap.size w6 w') => x0O10.below hw)
  have hO_X0 := hid (fun (w' : World) (hw : Below (w6).heap.size w6 w') => X0O10.below hw)
  have hO_g0 := hid (fun (w' : World) (hw : Below (w6).heap.size w6 w') => g0O10.below hw)
  have hO_G0 := hid (fun (w' : World) (hw : Below (w6).heap.size w6 w') => G0O10.below hw)
  have hA := hid (fun (w' : World) (hw : Below (w6).heap.size w6 w') => (⟨h0.below (hb10.trans (hw.mono hb10.size)), trivial⟩ : Reads w' a0 (ints l0) ∧ True))
  clear A0O10 c0O10 v0O10 V0O10 x0O10 X0O10 g0O10 G0O10
  go_region_held3 (fun w' => Below (w6).heap.size w6 w' ∧ w'.cell? ⟨(W.heap.size), 0, none⟩ = some (.int .i64 n0) ∧ w'.cell? ⟨(W.heap.size), 1, none⟩ = some (a0) ∧ w'.cell? ⟨(w4.heap.size), 0, none⟩ = some (.int .i64 n0) ∧ w'.cell? ⟨(w4.heap.size), 1, none⟩ = some ((.slice x0a l0.length x0c))) (first | exact ⟨(Below.refl _ _).drew, hK.out _ (Below.refl _ _).drew⟩ | exact ⟨hbT, hK.out _ hbT⟩ | exact ⟨hbS, hK.out _ hbS⟩) ((first | (go_at_call 16; refine (toB _ _ _ _ (hA.out _ (Below.refl _ _).drew).1 (by omega)).mono ?_; rintro e wy1 ⟨y1, rfl, hoy, hsy⟩; have hbS := (Below.refl w6.heap.size w6).drew.trans (hsy.mono (by simp))) | (go_at_call 18; refine (eqB _ _ _ _ _ _ _ (hO_x0.out _ hbS).reads hoy.reads).mono ?_; rintro e wz1 ⟨rfl, hsz⟩; have hbT := hbS.trans (hsz.mono hbS.size); rw [show (n0 == n0 && decide (l0 = l0)) = true by simp])))
  have hb11 := hb10.trans (hbT.mono hb10.size)
  have A0O11 := hO_A0.out _ hbT
  have c0O11 := hO_c0.out _ hbT
  have v0O11 := hO_v0.out _ hbT
  have V0O11 := hO_V0.out _ hbT
  have x0O11 := hO_x0.out _ hbT
  have X0O11 := hO_X0.out _ hbT
  have g0O11 := hO_g0.out _ hbT
  have G0O11 := hO_G0.out _ hbT
  clear hA hO_A0 hO_c0 hO_v0 hO_V0 hO_x0 hO_X0 hO_g0 hO_G0 hb10
  have A0c0 := A0O11.reads.cell 0 _ rfl
  rw [adr_arr] at A0c0
  have A0c1 := A0O11.reads.cell 1 _ rfl
  rw [adr_arr] at A0c1
  have V0c0 := V0O11.reads.cell 0 _ rfl
  rw [adr_arr] at V0c0
  have V0c1 := V0O11.reads.cell 1 _ rfl
  rw [adr_arr] at V0c1
  have X0c0 := X0O11.reads.cell 0 _ rfl
  rw [adr_arr] at X0c0
  have X0c1 := X0O11.reads.cell 1 _ rfl
  rw [adr_arr] at X0c1
  have G0c0 := G0O11.reads.cell 0 _ rfl
  rw [adr_arr] at G0c0
  have G0c1 := G0O11.reads.cell 1 _ rfl
  rw [adr_arr] at G0c1
  clear hbT hbS hsz hsy hoy hK
  go_wp2_with fail
  refine (markB _ _ _ 1 _ x0O11 (by omega) (by omega) (by omega)).mono ?_
  rintro e w7 ⟨rfl, ho, hs⟩
  have hb12 := hb11.grown hs hb11.size (fun k hk => (x0O11.blk_lt hk).1)
  have A0O12 := A0O11.grown hs (ap_A0_x0).ne
  have c0O12 := c0O11.grown hs (ap_c0_x0).ne
  have v0O12 := v0O11.grown hs (ap_v0_x0).ne
  have V0O12 := V0O11.grown hs (ap_V0_x0).ne
  have x0O12 := ho
  have X0O12 := X0O11.grown hs (ap_X0_x0).ne
  have g0O12 := g0O11.grown hs (ap_g0_x0).ne
  have G0O12 := G0O11.grown hs (ap_G0_x0).ne
  clear hs hb11 A0O11 c0O11 v0O11 V0O11 x0O11 ho X0O11 g0O11 G0O11
  have A0c0 := A0O12.reads.cell 0 _ rfl
  rw [adr_arr] at A0c0
  have A0c1 := A0O12.reads.cell 1 _ rfl
  rw [adr_arr] at A0c1
  have V0c0 := V0O12.reads.cell 0 _ rfl
  rw [adr_arr] at V0c0
  have V0c1 := V0O12.reads.cell 1 _ rfl
  rw [adr_arr] at V0c1
  have X0c0 := X0O12.reads.cell 0 _ rfl
  rw [adr_arr] at X0c0
  have X0c1 := X0O12.reads.cell 1 _ rfl
  rw [adr_arr] at X0c1
  have G0c0 := G0O12.reads.cell 0 _ rfl
  rw [adr_arr] at G0c0
  have G0c1 := G0O12.reads.cell 1 _ rfl
  rw [adr_arr] at G0c1
  go_wp2_with fail
  refine (eqB _ _ _ _ _ _ _ g0O12.reads v0O12.reads).mono ?_
  rintro e w8 ⟨rfl, hs⟩
  have hb13 := hb12.trans (hs.mono hb12.size)
  have A0O13 := A0O12.below hs
  have c0O13 := c0O12.below hs
  have v0O13 := v0O12.below hs
  have V0O13 := V0O12.below hs
  have x0O13 := x0O12.below hs
  have X0O13 := X0O12.below hs
  have g0O13 := g0O12.below hs
  have G0O13 := G0O12.below hs
  clear hs hb12 A0O12 c0O12 v0O12 V0O12 x0O12 X0O12 g0O12 G0O12
  have A0c0 := A0O13.reads.cell 0 _ rfl
  rw [adr_arr] at A0c0
  have A0c1 := A0O13.reads.cell 1 _ rfl
  rw [adr_arr] at A0c1
  have V0c0 := V0O13.reads.cell 0 _ rfl
  rw [adr_arr] at V0c0
  have V0c1 := V0O13.reads.cell 1 _ rfl
  rw [adr_arr] at V0c1
  have X0c0 := X0O13.reads.cell 0 _ rfl
  rw [adr_arr] at X0c0
  have X0c1 := X0O13.reads.cell 1 _ rfl
  rw [adr_arr] at X0c1
  have G0c0 := G0O13.reads.cell 0 _ rfl
  rw [adr_arr] at G0c0
  have G0c1 := G0O13.reads.cell 1 _ rfl
  rw [adr_arr] at G0c1
  rw [show (N == N && decide (L = L)) = true by simp]
  go_wp2_with fail
  refine (markB _ _ _ 1 _ g0O13 (by omega) (by omega) (by omega)).mono ?_
  rintro e w9 ⟨rfl, ho, hs⟩
  have hb14 := hb13.grown hs hb13.size (fun k hk => (g0O13.blk_lt hk).1)
  have A0O14 := A0O13.grown hs (ap_A0_g0).ne
  have c0O14 := c0O13.grown hs (ap_c0_g0).ne
  have v0O14 := v0O13.grown hs (ap_v0_g0).ne
  have V0O14 := V0O13.grown hs (ap_V0_g0).ne
  have x0O14 := x0O13.grown hs (ap_x0_g0).ne
  have X0O14 := X0O13.grown hs (ap_X0_g0).ne
  have g0O14 := ho
  have G0O14 := G0O13.grown hs (ap_G0_g0).ne
  clear hs hb13 A0O13 c0O13 v0O13 V0O13 x0O13 X0O13 g0O13 ho G0O13
  have A0c0 := A0O14.reads.cell 0 _ rfl
  rw [adr_arr] at A0c0
  have A0c1 := A0O14.reads.cell 1 _ rfl
  rw [adr_arr] at A0c1
  have V0c0 := V0O14.reads.cell 0 _ rfl
  rw [adr_arr] at V0c0
  have V0c1 := V0O14.reads.cell 1 _ rfl
  rw [adr_arr] at V0c1
  have X0c0 := X0O14.reads.cell 0 _ rfl
  rw [adr_arr] at X0c0
  have X0c1 := X0O14.reads.cell 1 _ rfl
  rw [adr_arr] at X0c1
  have G0c0 := G0O14.reads.cell 0 _ rfl
  rw [adr_arr] at G0c0
  have G0c1 := G0O14.reads.cell 1 _ rfl
  rw [adr_arr] at G0c1
  go_wp2_with fail
  refine (heldB _ _ L.length 1 _ g0O14.reads (by omega) (by omega) (by omega)).mono ?_
  rintro e w10 ⟨rfl, hs⟩
  have hb15 := hb14.trans (hs.mono hb14.size)
  have A0O15 := A0O14.below hs
  have c0O15 := c0O14.below hs
  have v0O15 := v0O14.below hs
  have V0O15 := V0O14.below hs
  have x0O15 := x0O14.below hs
  have X0O15 := X0O14.below hs
  have g0O15 := g0O14.below hs
  have G0O15 := G0O14.below hs
  clear hs hb14 A0O14 c0O14 v0O14 V0O14 x0O14 X0O14 g0O14 G0O14
  have A0c0 := A0O15.reads.cell 0 _ rfl
  rw [adr_arr] at A0c0
  have A0c1 := A0O15.reads.cell 1 _ rfl
  rw [adr_arr] at A0c1
  have V0c0 := V0O15.reads.cell 0 _ rfl
  rw [adr_arr] at V0c0
  have V0c1 := V0O15.reads.cell 1 _ rfl
  rw [adr_arr] at V0c1
  have X0c0 := X0O15.reads.cell 0 _ rfl
  rw [adr_arr] at X0c0
  have X0c1 := X0O15.reads.cell 1 _ rfl
  rw [adr_arr] at X0c1
  have G0c0 := G0O15.reads.cell 0 _ rfl
  rw [adr_arr] at G0c0
  have G0c1 := G0O15.reads.cell 1 _ rfl
  rw [adr_arr] at G0c1
  go_wp2_with fail
  refine (toB _ _ _ _ (h0.below hb15) (by omega)).mono ?_
  rintro e w11 ⟨d0, rfl, ho, hs⟩
  obtain ⟨d0a, d0c, rfl⟩ := ho.form'
  have ap_A0_d0 : Apart (arrV (W.heap.size) 2) (.slice d0a l0.length d0c) := apart_new A0O15 ho
  have ap_d0_A0 : Apart (.slice d0a l0.length d0c) (arrV (W.heap.size) 2) := apart_new' A0O15 ho
  have ap_c0_d0 : Apart (.slice c0a l0.length c0c) (.slice d0a l0.length d0c) := apart_new c0O15 ho
  have ap_d0_c0 : Apart (.slice d0a l0.length d0c) (.slice c0a l0.length c0c) := apart_new' c0O15 ho
  have ap_v0_d0 : Apart (.slice v0a v0n v0c) (.slice d0a l0.length d0c) := apart_new v0O15 ho
  have ap_d0_v0 : Apart (.slice d0a l0.length d0c) (.slice v0a v0n v0c) := apart_new' v0O15 ho
  have ap_V0_d0 : Apart (arrV (w3.heap.size) 2) (.slice d0a l0.length d0c) := apart_new V0O15 ho
  have ap_d0_V0 : Apart (.slice d0a l0.length d0c) (arrV (w3.heap.size) 2) := apart_new' V0O15 ho
  have ap_x0_d0 : Apart (.slice x0a l0.length x0c) (.slice d0a l0.length d0c) := apart_new x0O15 ho
  have ap_d0_x0 : Apart (.slice d0a l0.length d0c) (.slice x0a l0.length x0c) := apart_new' x0O15 ho
  have ap_X0_d0 : Apart (arrV (w4.heap.size) 2) (.slice d0a l0.length d0c) := apart_new X0O15 ho
  have ap_d0_X0 : Apart (.slice d0a l0.length d0c) (arrV (w4.heap.size) 2) := apart_new' X0O15 ho
  have ap_g0_d0 : Apart (.slice g0a g0n g0c) (.slice d0a l0.length d0c) := apart_new g0O15 ho
  have ap_d0_g0 : Apart (.slice d0a l0.length d0c) (.slice g0a g0n g0c) := apart_new' g0O15 ho
  have ap_G0_d0 : Apart (arrV (w5.heap.size) 2) (.slice d0a l0.length d0c) := apart_new G0O15 ho
  have ap_d0_G0 : Apart (.slice d0a l0.length d0c) (arrV (w5.heap.size) 2) := apart_new' G0O15 ho
  have d0O16 := ho.mono hb15.size
  have hb16 := hb15.trans (hs.mono hb15.size)
  have A0O16 := A0O15.below hs
  have c0O16 := c0O15.below hs
  have v0O16 := v0O15.below hs
  have V0O16 := V0O15.below hs
  have x0O16 := x0O15.below hs
  have X0O16 := X0O15.below hs
  have g0O16 := g0O15.below hs
  have G0O16 := G0O15.below hs
  clear hs hb15 A0O15 c0O15 v0O15 V0O15 x0O15 X0O15 g0O15 G0O15 ho
  have A0c0 := A0O16.reads.cell 0 _ rfl
  rw [adr_arr] at A0c0
  have A0c1 := A0O16.reads.cell 1 _ rfl
  rw [adr_arr] at A0c1
  have V0c0 := V0O16.reads.cell 0 _ rfl
  rw [adr_arr] at V0c0
  have V0c1 := V0O16.reads.cell 1 _ rfl
  rw [adr_arr] at V0c1
  have X0c0 := X0O16.reads.cell 0 _ rfl
  rw [adr_arr] at X0c0
  have X0c1 := X0O16.reads.cell 1 _ rfl
  rw [adr_arr] at X0c1
  have G0c0 := G0O16.reads.cell 0 _ rfl
  rw [adr_arr] at G0c0
  have G0c1 := G0O16.reads.cell 1 _ rfl
  rw [adr_arr] at G0c1
  go_wp2_with fail
  refine (himpl.out _ _ d0O16.reads).mono ?_
  rintro e w12 ⟨r0, rfl, ho, hs⟩
  obtain ⟨r0a, r0n, r0c, rfl⟩ := ho.form3
  have ap_A0_r0 : Apart (arrV (W.heap.size) 2) (.slice r0a r0n r0c) := apart_new A0O16 ho
  have ap_r0_A0 : Apart (.slice r0a r0n r0c) (arrV (W.heap.size) 2) := apart_new' A0O16 ho
  have ap_c0_r0 : Apart (.slice c0a l0.length c0c) (.slice r0a r0n r0c) := apart_new c0O16 ho
  have ap_r0_c0 : Apart (.slice r0a r0n r0c) (.slice c0a l0.length c0c) := apart_new' c0O16 ho
  have ap_v0_r0 : Apart (.slice v0a v0n v0c) (.slice r0a r0n r0c) := apart_new v0O16 ho
  have ap_r0_v0 : Apart (.slice r0a r0n r0c) (.slice v0a v0n v0c) := apart_new' v0O16 ho
  have ap_V0_r0 : Apart (arrV (w3.heap.size) 2) (.slice r0a r0n r0c) := apart_new V0O16 ho
  have ap_r0_V0 : Apart (.slice r0a r0n r0c) (arrV (w3.heap.size) 2) := apart_new' V0O16 ho
  have ap_x0_r0 : Apart (.slice x0a l0.length x0c) (.slice r0a r0n r0c) := apart_new x0O16 ho
  have ap_r0_x0 : Apart (.slice r0a r0n r0c) (.slice x0a l0.length x0c) := apart_new' x0O16 ho
  have ap_X0_r0 : Apart (arrV (w4.heap.size) 2) (.slice r0a r0n r0c) := apart_new X0O16 ho
  have ap_r0_X0 : Apart (.slice r0a r0n r0c) (arrV (w4.heap.size) 2) := apart_new' X0O16 ho
  have ap_g0_r0 : Apart (.slice g0a g0n g0c) (.slice r0a r0n r0c) := apart_new g0O16 ho
  have ap_r0_g0 : Apart (.slice r0a r0n r0c) (.slice g0a g0n g0c) := apart_new' g0O16 ho
  have ap_G0_r0 : Apart (arrV (w5.heap.size) 2) (.slice r0a r0n r0c) := apart_new G0O16 ho
  have ap_r0_G0 : Apart (.slice r0a r0n r0c) (arrV (w5.heap.size) 2) := apart_new' G0O16 ho
  have ap_d0_r0 : Apart (.slice d0a l0.length d0c) (.slice r0a r0n r0c) := apart_new d0O16 ho
  have ap_r0_d0 : Apart (.slice r0a r0n r0c) (.slice d0a l0.length d0c) := apart_new' d0O16 ho
  have r0O17 := ho.mono hb16.size
  have hb17 := hb16.trans (hs.mono hb16.size)
  have A0O17 := A0O16.below hs
  have c0O17 := c0O16.below hs
  have v0O17 := v0O16.below hs
  have V0O17 := V0O16.below hs
  have x0O17 := x0O16.below hs
  have X0O17 := X0O16.below hs
  have g0O17 := g0O16.below hs
  have G0O17 := G0O16.below hs
  have d0O17 := d0O16.below hs
  clear hs hb16 A0O16 c0O16 v0O16 V0O16 x0O16 X0O16 g0O16 G0O16 d0O16 ho
  have A0c0 := A0O17.reads.cell 0 _ rfl
  rw [adr_arr] at A0c0
  have A0c1 := A0O17.reads.cell 1 _ rfl
  rw [adr_arr] at A0c1
  have V0c0 := V0O17.reads.cell 0 _ rfl
  rw [adr_arr] at V0c0
  have V0c1 := V0O17.reads.cell 1 _ rfl
  rw [adr_arr] at V0c1
  have X0c0 := X0O17.reads.cell 0 _ rfl
  rw [adr_arr] at X0c0
  have X0c1 := X0O17.reads.cell 1 _ rfl
  rw [adr_arr] at X0c1
  have G0c0 := G0O17.reads.cell 0 _ rfl
  rw [adr_arr] at G0c0
  have G0c1 := G0O17.reads.cell 1 _ rfl
  rw [adr_arr] at G0c1
  have hnew := (own_arr w12 27 #[.int .i64 N, (.slice r0a r0n r0c)] 2 rfl (by omega) (Nat.le_refl _))
  have ap_A0_R0 := apart_new A0O17 hnew
  have ap_R0_A0 := apart_new' A0O17 hnew
  have ap_c0_R0 := apart_new c0O17 hnew
  have ap_R0_c0 := apart_new' c0O17 hnew
  have ap_v0_R0 := apart_new v0O17 hnew
  have ap_R0_v0 := apart_new' v0O17 hnew
  have ap_V0_R0 := apart_new V0O17 hnew
  have ap_R0_V0 := apart_new' V0O17 hnew
  have ap_x0_R0 := apart_new x0O17 hnew
  have ap_R0_x0 := apart_new' x0O17 hnew
  have ap_X0_R0 := apart_new X0O17 hnew
  have ap_R0_X0 := apart_new' X0O17 hnew
  have ap_g0_R0 := apart_new g0O17 hnew
  have ap_R0_g0 := apart_new' g0O17 hnew
  have ap_G0_R0 := apart_new G0O17 hnew
  have ap_R0_G0 := apart_new' G0O17 hnew
  have ap_d0_R0 := apart_new d0O17 hnew
  have ap_R0_d0 := apart_new' d0O17 hnew
  have ap_r0_R0 := apart_new r0O17 hnew
  have ap_R0_r0 := apart_new' r0O17 hnew
  have hb18 := hb17.alloc hb17.size (.cells #[.int .i64 N, (.slice r0a r0n r0c)] 27)
  have A0O18 := own_alloc A0O17 (.cells #[.int .i64 N, (.slice r0a r0n r0c)] 27)
  have c0O18 := own_alloc c0O17 (.cells #[.int .i64 N, (.slice r0a r0n r0c)] 27)
  have v0O18 := own_alloc v0O17 (.cells #[.int .i64 N, (.slice r0a r0n r0c)] 27)
  have V0O18 := own_alloc V0O17 (.cells #[.int .i64 N, (.slice r0a r0n r0c)] 27)
  have x0O18 := own_alloc x0O17 (.cells #[.int .i64 N, (.slice r0a r0n r0c)] 27)
  have X0O18 := own_alloc X0O17 (.cells #[.int .i64 N, (.slice r0a r0n r0c)] 27)
  have g0O18 := own_alloc g0O17 (.cells #[.int .i64 N, (.slice r0a r0n r0c)] 27)
  have G0O18 := own_alloc G0O17 (.cells #[.int .i64 N, (.slice r0a r0n r0c)] 27)
  have d0O18 := own_alloc d0O17 (.cells #[.int .i64 N, (.slice r0a r0n r0c)] 27)
  have r0O18 := own_alloc r0O17 (.cells #[.int .i64 N, (.slice r0a r0n r0c)] 27)
  have R0O18 := hnew.mono hb17.size
  clear hnew hb17 A0O17 c0O17 v0O17 V0O17 x0O17 X0O17 g0O17 G0O17 d0O17 r0O17
  have A0c0 := A0O18.reads.cell 0 _ rfl
  rw [adr_arr] at A0c0
  have A0c1 := A0O18.reads.cell 1 _ rfl
  rw [adr_arr] at A0c1
  have V0c0 := V0O18.reads.cell 0 _ rfl
  rw [adr_arr] at V0c0
  have V0c1 := V0O18.reads.cell 1 _ rfl
  rw [adr_arr] at V0c1
  have X0c0 := X0O18.reads.cell 0 _ rfl
  rw [adr_arr] at X0c0
  have X0c1 := X0O18.reads.cell 1 _ rfl
  rw [adr_arr] at X0c1
  have G0c0 := G0O18.reads.cell 0 _ rfl
  rw [adr_arr] at G0c0
  have G0c1 := G0O18.reads.cell 1 _ rfl
  rw [adr_arr] at G0c1
  have R0c0 := R0O18.reads.cell 0 _ rfl
  rw [adr_arr] at R0c0
  have R0c1 := R0O18.reads.cell 1 _ rfl
  rw [adr_arr] at R0c1
  go_wp2_with fail
  refine (eqB _ _ _ _ _ _ _ r0O18.reads v0O18.reads).mono ?_
  rintro e w13 ⟨rfl, hs⟩
  have hb19 := hb18.trans (hs.mono hb18.size)
  have A0O19 := A0O18.below hs
  have c0O19 := c0O18.below hs
  have v0O19 := v0O18.below hs
  have V0O19 := V0O18.below hs
  have x0O19 := x0O18.below hs
  have X0O19 := X0O18.below hs
  have g0O19 := g0O18.below hs
  have G0O19 := G0O18.below hs
  have d0O19 := d0O18.below hs
  have r0O19 := r0O18.below hs
  have R0O19 := R0O18.below hs
  clear hs hb18 A0O18 c0O18 v0O18 V0O18 x0O18 X0O18 g0O18 G0O18 d0O18 r0O18 R0O18
  have A0c0 := A0O19.reads.cell 0 _ rfl
  rw [adr_arr] at A0c0
  have A0c1 := A0O19.reads.cell 1 _ rfl
  rw [adr_arr] at A0c1
  have V0c0 := V0O19.reads.cell 0 _ rfl
  rw [adr_arr] at V0c0
  have V0c1 := V0O19.reads.cell 1 _ rfl
  rw [adr_arr] at V0c1
  have X0c0 := X0O19.reads.cell 0 _ rfl
  rw [adr_arr] at X0c0
  have X0c1 := X0O19.reads.cell 1 _ rfl
  rw [adr_arr] at X0c1
  have G0c0 := G0O19.reads.cell 0 _ rfl
  rw [adr_arr] at G0c0
  have G0c1 := G0O19.reads.cell 1 _ rfl
  rw [adr_arr] at G0c1
  have R0c0 := R0O19.reads.cell 0 _ rfl
  rw [adr_arr] at R0c0
  have R0c1 := R0O19.reads.cell 1 _ rfl
  rw [adr_arr] at R0c1
  rw [show (N == N && decide (L = L)) = true by simp]
  go_wp2_with fail
  refine (heldB _ _ L.length 1 _ g0O19.reads (by omega) (by omega) (by omega)).mono ?_
  rintro e w14 ⟨rfl, hs⟩
  have hb20 := hb19.trans (hs.mono hb19.size)
  have A0O20 := A0O19.below hs
  have c0O20 := c0O19.below hs
  have v0O20 := v0O19.below hs
  have V0O20 := V0O19.below hs
  have x0O20 := x0O19.below hs
  have X0O20 := X0O19.below hs
  have g0O20 := g0O19.below hs
  have G0O20 := G0O19.below hs
  have d0O20 := d0O19.below hs
  have r0O20 := r0O19.below hs
  have R0O20 := R0O19.below hs
  clear hs hb19 A0O19 c0O19 v0O19 V0O19 x0O19 X0O19 g0O19 G0O19 d0O19 r0O19 R0O19
  have A0c0 := A0O20.reads.cell 0 _ rfl
  rw [adr_arr] at A0c0
  have A0c1 := A0O20.reads.cell 1 _ rfl
  rw [adr_arr] at A0c1
  have V0c0 := V0O20.reads.cell 0 _ rfl
  rw [adr_arr] at V0c0
  have V0c1 := V0O20.reads.cell 1 _ rfl
  rw [adr_arr] at V0c1
  have X0c0 := X0O20.reads.cell 0 _ rfl
  rw [adr_arr] at X0c0
  have X0c1 := X0O20.reads.cell 1 _ rfl
  rw [adr_arr] at X0c1
  have G0c0 := G0O20.reads.cell 0 _ rfl
  rw [adr_arr] at G0c0
  have G0c1 := G0O20.reads.cell 1 _ rfl
  rw [adr_arr] at G0c1
  have R0c0 := R0O20.reads.cell 0 _ rfl
  rw [adr_arr] at R0c0
  have R0c1 := R0O20.reads.cell 1 _ rfl
  rw [adr_arr] at R0c1
  go_wp2_with fail
  go_ret
  exact ⟨rfl, hb20⟩


end Go.Proofs.Ytoomkkeffejcdaa
