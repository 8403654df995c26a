/- Walks of the exact laws over braids whose results are plain. -/
import Derived.Test.YtoomkkeffejcdaaBrb
import Derived.Test.YtoomkkeffejcdaaBrc
import Derived.Test.YtoomkkeffejcdaaBrd
import Derived.Deep.RegionHeld3
namespace Go.Proofs.Ytoomkkeffejcdaa
open Go.RowKit

theorem Own.form' {w : World} {B : Nat} {e : TypeId} {v : Value} {l : List Int} (h : Own w B e v (ints l)) : ∃ a c, v = .slice a l.length c := by
  obtain ⟨a, c, rfl, -⟩ := h.reads.form
  exact ⟨a, c, by rw [length_ints]⟩
theorem szN_yes {k : Nat} {q : Int} (h : ¬ q - k < 0) : szN k q = q - k := by simp [szN, h]
theorem szN_no {k : Nat} {q : Int} (h : q - k < 0) : szN k q = -1 := by simp [szN, h]

set_option maxHeartbeats 2000000 in
theorem walk_FnExactValidBraid (n0 : Int) (a0 : Value) (l0 : List Int) (W : World) (h0 : Reads W a0 (ints l0)) :
    Calls Try.prog 4 #[.agg #[.int .i64 n0, a0]] W fun e w' => e = .returned (.bool true) ∧ Below W.heap.size W w' := by
  have hs0 := h0.small
  simp only [length_ints] at hs0
  by_cases hl0 : (1048576 : Int) - (l0.length : Int) < 0
  · have hz := szN_no hl0
    go_enter Try.func4, Try.ntmps4
    have hb0 : Below W.heap.size W W := Below.refl _ _
    have hb1 := hb0.alloc hb0.size (.cells #[.int .i64 n0, a0] 24)
    have A0O1 := (own_arr W 24 #[.int .i64 n0, a0] 2 rfl (by omega) (Nat.le_refl _)).mono hb0.size
    clear hb0
    have A0c0 := A0O1.reads.cell 0 _ rfl
    rw [adr_arr] at A0c0
    have A0c1 := A0O1.reads.cell 1 _ rfl
    rw [adr_arr] at A0c1
    go_wp2_with fail
    refine (szB _ _ _ _ _ (h0.below hb1) (by omega) (by omega)).mono ?_
    rintro e w1 ⟨rfl, hs⟩
    have hb2 := hb1.trans (hs.mono hb1.size)
    have A0O2 := A0O1.below hs
    clear hs hb1 A0O1
    have A0c0 := A0O2.reads.cell 0 _ rfl
    rw [adr_arr] at A0c0
    have A0c1 := A0O2.reads.cell 1 _ rfl
    rw [adr_arr] at A0c1
    rw [hz]
    go_wp2_with fail
    go_ret
    exact ⟨rfl, hb2⟩
  · have hz := szN_yes hl0
    go_enter Try.func4, Try.ntmps4
    have hb0 : Below W.heap.size W W := Below.refl _ _
    have hb1 := hb0.alloc hb0.size (.cells #[.int .i64 n0, a0] 24)
    have A0O1 := (own_arr W 24 #[.int .i64 n0, a0] 2 rfl (by omega) (Nat.le_refl _)).mono hb0.size
    clear hb0
    have A0c0 := A0O1.reads.cell 0 _ rfl
    rw [adr_arr] at A0c0
    have A0c1 := A0O1.reads.cell 1 _ rfl
    rw [adr_arr] at A0c1
    go_wp2_with fail
    refine (szB _ _ _ _ _ (h0.below hb1) (by omega) (by omega)).mono ?_
    rintro e w1 ⟨rfl, hs⟩
    have hb2 := hb1.trans (hs.mono hb1.size)
    have A0O2 := A0O1.below hs
    clear hs hb1 A0O1
    have A0c0 := A0O2.reads.cell 0 _ rfl
    rw [adr_arr] at A0c0
    have A0c1 := A0O2.reads.cell 1 _ rfl
    rw [adr_arr] at A0c1
    rw [hz]
    go_wp2_with fail
    refine (toB _ _ _ _ (h0.below hb2) (by omega)).mono ?_
    rintro e w2 ⟨c0, rfl, ho, hs⟩
    obtain ⟨c0a, c0c, rfl⟩ := ho.form'
    have ap_A0_c0 : Apart (arrV (W).heap.size 2) (.slice c0a l0.length c0c) := apart_new A0O2 ho
    have ap_c0_A0 : Apart (.slice c0a l0.length c0c) (arrV (W).heap.size 2) := apart_new' A0O2 ho
    have c0O3 := ho.mono hb2.size
    have hb3 := hb2.trans (hs.mono hb2.size)
    have A0O3 := A0O2.below hs
    clear hs hb2 A0O2 ho
    have A0c0 := A0O3.reads.cell 0 _ rfl
    rw [adr_arr] at A0c0
    have A0c1 := A0O3.reads.cell 1 _ rfl
    rw [adr_arr] at A0c1
    go_wp2_with fail
    refine (vb_spec _ _ _ _ c0O3.reads).mono ?_
    rintro e w3 ⟨rfl, hs⟩
    have hb4 := hb3.trans (hs.mono hb3.size)
    have A0O4 := A0O3.below hs
    have c0O4 := c0O3.below hs
    clear hs hb3 A0O3 c0O3
    have A0c0 := A0O4.reads.cell 0 _ rfl
    rw [adr_arr] at A0c0
    have A0c1 := A0O4.reads.cell 1 _ rfl
    rw [adr_arr] at A0c1
    go_wp2_with fail
    refine (toB _ _ _ _ (h0.below hb4) (by omega)).mono ?_
    rintro e w4 ⟨x0, rfl, ho, hs⟩
    obtain ⟨x0a, x0c, rfl⟩ := ho.form'
    have ap_A0_x0 : Apart (arrV (W).heap.size 2) (.slice x0a l0.length x0c) := apart_new A0O4 ho
    have ap_x0_A0 : Apart (.slice x0a l0.length x0c) (arrV (W).heap.size 2) := apart_new' A0O4 ho
    have ap_c0_x0 : Apart (.slice c0a l0.length c0c) (.slice x0a l0.length x0c) := apart_new c0O4 ho
    have ap_x0_c0 : Apart (.slice x0a l0.length x0c) (.slice c0a l0.length c0c) := apart_new' c0O4 ho
    have x0O5 := ho.mono hb4.size
    have hb5 := hb4.trans (hs.mono hb4.size)
    have A0O5 := A0O4.below hs
    have c0O5 := c0O4.below hs
    clear hs hb4 A0O4 c0O4 ho
    have A0c0 := A0O5.reads.cell 0 _ rfl
    rw [adr_arr] at A0c0
    have A0c1 := A0O5.reads.cell 1 _ rfl
    rw [adr_arr] at A0c1
    have ap_A0_X0 : Apart (arrV (W).heap.size 2) (arrV (w4).heap.size 2) := apart_new A0O5 (own_arr w4 27 #[.int .i64 n0, (.slice x0a l0.length x0c)] 2 rfl (by omega) (Nat.le_refl _))
    have ap_X0_A0 : Apart (arrV (w4).heap.size 2) (arrV (W).heap.size 2) := apart_new' A0O5 (own_arr w4 27 #[.int .i64 n0, (.slice x0a l0.length x0c)] 2 rfl (by omega) (Nat.le_refl _))
    have ap_c0_X0 : Apart (.slice c0a l0.length c0c) (arrV (w4).heap.size 2) := apart_new c0O5 (own_arr w4 27 #[.int .i64 n0, (.slice x0a l0.length x0c)] 2 rfl (by omega) (Nat.le_refl _))
    have ap_X0_c0 : Apart (arrV (w4).heap.size 2) (.slice c0a l0.length c0c) := apart_new' c0O5 (own_arr w4 27 #[.int .i64 n0, (.slice x0a l0.length x0c)] 2 rfl (by omega) (Nat.le_refl _))
    have ap_x0_X0 : Apart (.slice x0a l0.length x0c) (arrV (w4).heap.size 2) := apart_new x0O5 (own_arr w4 27 #[.int .i64 n0, (.slice x0a l0.length x0c)] 2 rfl (by omega) (Nat.le_refl _))
    have ap_X0_x0 : Apart (arrV (w4).heap.size 2) (.slice x0a l0.length x0c) := apart_new' x0O5 (own_arr w4 27 #[.int .i64 n0, (.slice x0a l0.length x0c)] 2 rfl (by omega) (Nat.le_refl _))
    have hb6 := hb5.alloc hb5.size (.cells #[.int .i64 n0, (.slice x0a l0.length x0c)] 27)
    have A0O6 := own_alloc A0O5 (.cells #[.int .i64 n0, (.slice x0a l0.length x0c)] 27)
    have c0O6 := own_alloc c0O5 (.cells #[.int .i64 n0, (.slice x0a l0.length x0c)] 27)
    have x0O6 := own_alloc x0O5 (.cells #[.int .i64 n0, (.slice x0a l0.length x0c)] 27)
    have X0O6 := (own_arr w4 27 #[.int .i64 n0, (.slice x0a l0.length x0c)] 2 rfl (by omega) (Nat.le_refl _)).mono hb5.size
    clear hb5 A0O5 c0O5 x0O5
    have A0c0 := A0O6.reads.cell 0 _ rfl
    rw [adr_arr] at A0c0
    have A0c1 := A0O6.reads.cell 1 _ rfl
    rw [adr_arr] at A0c1
    have X0c0 := X0O6.reads.cell 0 _ rfl
    rw [adr_arr] at X0c0
    have X0c1 := X0O6.reads.cell 1 _ rfl
    rw [adr_arr] at X0c1
    go_wp2_with fail
    refine (vb_impl _ _ _ _ x0O6.reads).mono ?_
    rintro e w5 ⟨rfl, hs⟩
    have hb7 := hb6.trans (hs.mono hb6.size)
    have A0O7 := A0O6.below hs
    have c0O7 := c0O6.below hs
    have x0O7 := x0O6.below hs
    have X0O7 := X0O6.below hs
    clear hs hb6 A0O6 c0O6 x0O6 X0O6
    have A0c0 := A0O7.reads.cell 0 _ rfl
    rw [adr_arr] at A0c0
    have A0c1 := A0O7.reads.cell 1 _ rfl
    rw [adr_arr] at A0c1
    have X0c0 := X0O7.reads.cell 0 _ rfl
    rw [adr_arr] at X0c0
    have X0c1 := X0O7.reads.cell 1 _ rfl
    rw [adr_arr] at X0c1
    go_wp2_with fail
    have hK := hid (fun (w' : World) (hw : Below (w5).heap.size w5 w') => (⟨by have := (A0O7.below hw).reads.cell 0 _ rfl; rwa [adr_arr] at this, by have := (A0O7.below hw).reads.cell 1 _ rfl; rwa [adr_arr] at this, by have := (X0O7.below hw).reads.cell 0 _ rfl; rwa [adr_arr] at this, by have := (X0O7.below hw).reads.cell 1 _ rfl; rwa [adr_arr] at this⟩ : w'.cell? ⟨(W).heap.size, 0, none⟩ = some (.int .i64 n0) ∧ w'.cell? ⟨(W).heap.size, 1, none⟩ = some (a0) ∧ w'.cell? ⟨(w4).heap.size, 0, none⟩ = some (.int .i64 n0) ∧ w'.cell? ⟨(w4).heap.size, 1, none⟩ = some ((.slice x0a l0.length x0c))))
    have hR := hid (fun (w' : World) (hw : Below (w5).heap.size w5 w') => (⟨h0.below (hb7.trans (hw.mono hb7.size)), (x0O7.below hw).reads⟩ : Reads w' a0 (ints l0) ∧ Reads w' (.slice x0a l0.length x0c) (ints l0)))
    clear A0O7 c0O7 x0O7 X0O7
    go_region_held3 (fun w' => Below (w5).heap.size w5 w' ∧ w'.cell? ⟨(W).heap.size, 0, none⟩ = some (.int .i64 n0) ∧ w'.cell? ⟨(W).heap.size, 1, none⟩ = some (a0) ∧ w'.cell? ⟨(w4).heap.size, 0, none⟩ = some (.int .i64 n0) ∧ w'.cell? ⟨(w4).heap.size, 1, none⟩ = some ((.slice x0a l0.length x0c))) (first | exact ⟨(Below.refl _ _).drew, hK.out _ (Below.refl _ _).drew⟩ | exact ⟨hbT, hK.out _ hbT⟩ | exact ⟨hbS, hK.out _ hbS⟩) ((first | (go_at_call 16; refine (toB _ _ _ _ (hR.out _ (Below.refl _ _).drew).1 (by omega)).mono ?_; rintro e wy ⟨y0, rfl, hoy, hsy⟩; have hbS := (Below.refl w5.heap.size w5).drew.trans (hsy.mono (by simp))) | (go_at_call 18; refine (eqB _ _ _ _ _ _ _ (hR.out _ hbS).2 hoy.reads).mono ?_; rintro e wz ⟨rfl, hsz⟩; have hbT := hbS.trans (hsz.mono hbS.size); rw [show (n0 == n0 && decide (l0 = l0)) = true by simp])))
    go_wp2_with fail
    go_ret
    exact ⟨rfl, hb7.trans (hbT.mono hb7.size)⟩

set_option maxHeartbeats 2000000 in
theorem walk_FnExactExponentSum (n0 : Int) (a0 : Value) (l0 : List Int) (W : World) (h0 : Reads W a0 (ints l0)) :
    Calls Try.prog 5 #[.agg #[.int .i64 n0, a0]] W fun e w' => e = .returned (.bool true) ∧ Below W.heap.size W w' := by
  have hs0 := h0.small
  simp only [length_ints] at hs0
  by_cases hl0 : (1048576 : Int) - (l0.length : Int) < 0
  · have hz := szN_no hl0
    go_enter Try.func5, Try.ntmps5
    have hb0 : Below W.heap.size W W := Below.refl _ _
    have hb1 := hb0.alloc hb0.size (.cells #[.int .i64 n0, a0] 24)
    have A0O1 := (own_arr W 24 #[.int .i64 n0, a0] 2 rfl (by omega) (Nat.le_refl _)).mono hb0.size
    clear hb0
    have A0c0 := A0O1.reads.cell 0 _ rfl
    rw [adr_arr] at A0c0
    have A0c1 := A0O1.reads.cell 1 _ rfl
    rw [adr_arr] at A0c1
    go_wp2_with fail
    refine (szB _ _ _ _ _ (h0.below hb1) (by omega) (by omega)).mono ?_
    rintro e w1 ⟨rfl, hs⟩
    have hb2 := hb1.trans (hs.mono hb1.size)
    have A0O2 := A0O1.below hs
    clear hs hb1 A0O1
    have A0c0 := A0O2.reads.cell 0 _ rfl
    rw [adr_arr] at A0c0
    have A0c1 := A0O2.reads.cell 1 _ rfl
    rw [adr_arr] at A0c1
    rw [hz]
    go_wp2_with fail
    go_ret
    exact ⟨rfl, hb2⟩
  · have hz := szN_yes hl0
    go_enter Try.func5, Try.ntmps5
    have hb0 : Below W.heap.size W W := Below.refl _ _
    have hb1 := hb0.alloc hb0.size (.cells #[.int .i64 n0, a0] 24)
    have A0O1 := (own_arr W 24 #[.int .i64 n0, a0] 2 rfl (by omega) (Nat.le_refl _)).mono hb0.size
    clear hb0
    have A0c0 := A0O1.reads.cell 0 _ rfl
    rw [adr_arr] at A0c0
    have A0c1 := A0O1.reads.cell 1 _ rfl
    rw [adr_arr] at A0c1
    go_wp2_with fail
    refine (szB _ _ _ _ _ (h0.below hb1) (by omega) (by omega)).mono ?_
    rintro e w1 ⟨rfl, hs⟩
    have hb2 := hb1.trans (hs.mono hb1.size)
    have A0O2 := A0O1.below hs
    clear hs hb1 A0O1
    have A0c0 := A0O2.reads.cell 0 _ rfl
    rw [adr_arr] at A0c0
    have A0c1 := A0O2.reads.cell 1 _ rfl
    rw [adr_arr] at A0c1
    rw [hz]
    go_wp2_with fail
    refine (toB _ _ _ _ (h0.below hb2) (by omega)).mono ?_
    rintro e w2 ⟨c0, rfl, ho, hs⟩
    obtain ⟨c0a, c0c, rfl⟩ := ho.form'
    have ap_A0_c0 : Apart (arrV (W).heap.size 2) (.slice c0a l0.length c0c) := apart_new A0O2 ho
    have ap_c0_A0 : Apart (.slice c0a l0.length c0c) (arrV (W).heap.size 2) := apart_new' A0O2 ho
    have c0O3 := ho.mono hb2.size
    have hb3 := hb2.trans (hs.mono hb2.size)
    have A0O3 := A0O2.below hs
    clear hs hb2 A0O2 ho
    have A0c0 := A0O3.reads.cell 0 _ rfl
    rw [adr_arr] at A0c0
    have A0c1 := A0O3.reads.cell 1 _ rfl
    rw [adr_arr] at A0c1
    go_wp2_with fail
    refine (expo_spec _ _ _ _ c0O3.reads).mono ?_
    rintro e w3 ⟨rfl, hs⟩
    have hb4 := hb3.trans (hs.mono hb3.size)
    have A0O4 := A0O3.below hs
    have c0O4 := c0O3.below hs
    clear hs hb3 A0O3 c0O3
    have A0c0 := A0O4.reads.cell 0 _ rfl
    rw [adr_arr] at A0c0
    have A0c1 := A0O4.reads.cell 1 _ rfl
    rw [adr_arr] at A0c1
    go_wp2_with fail
    refine (toB _ _ _ _ (h0.below hb4) (by omega)).mono ?_
    rintro e w4 ⟨x0, rfl, ho, hs⟩
    obtain ⟨x0a, x0c, rfl⟩ := ho.form'
    have ap_A0_x0 : Apart (arrV (W).heap.size 2) (.slice x0a l0.length x0c) := apart_new A0O4 ho
    have ap_x0_A0 : Apart (.slice x0a l0.length x0c) (arrV (W).heap.size 2) := apart_new' A0O4 ho
    have ap_c0_x0 : Apart (.slice c0a l0.length c0c) (.slice x0a l0.length x0c) := apart_new c0O4 ho
    have ap_x0_c0 : Apart (.slice x0a l0.length x0c) (.slice c0a l0.length c0c) := apart_new' c0O4 ho
    have x0O5 := ho.mono hb4.size
    have hb5 := hb4.trans (hs.mono hb4.size)
    have A0O5 := A0O4.below hs
    have c0O5 := c0O4.below hs
    clear hs hb4 A0O4 c0O4 ho
    have A0c0 := A0O5.reads.cell 0 _ rfl
    rw [adr_arr] at A0c0
    have A0c1 := A0O5.reads.cell 1 _ rfl
    rw [adr_arr] at A0c1
    have ap_A0_X0 : Apart (arrV (W).heap.size 2) (arrV (w4).heap.size 2) := apart_new A0O5 (own_arr w4 27 #[.int .i64 n0, (.slice x0a l0.length x0c)] 2 rfl (by omega) (Nat.le_refl _))
    have ap_X0_A0 : Apart (arrV (w4).heap.size 2) (arrV (W).heap.size 2) := apart_new' A0O5 (own_arr w4 27 #[.int .i64 n0, (.slice x0a l0.length x0c)] 2 rfl (by omega) (Nat.le_refl _))
    have ap_c0_X0 : Apart (.slice c0a l0.length c0c) (arrV (w4).heap.size 2) := apart_new c0O5 (own_arr w4 27 #[.int .i64 n0, (.slice x0a l0.length x0c)] 2 rfl (by omega) (Nat.le_refl _))
    have ap_X0_c0 : Apart (arrV (w4).heap.size 2) (.slice c0a l0.length c0c) := apart_new' c0O5 (own_arr w4 27 #[.int .i64 n0, (.slice x0a l0.length x0c)] 2 rfl (by omega) (Nat.le_refl _))
    have ap_x0_X0 : Apart (.slice x0a l0.length x0c) (arrV (w4).heap.size 2) := apart_new x0O5 (own_arr w4 27 #[.int .i64 n0, (.slice x0a l0.length x0c)] 2 rfl (by omega) (Nat.le_refl _))
    have ap_X0_x0 : Apart (arrV (w4).heap.size 2) (.slice x0a l0.length x0c) := apart_new' x0O5 (own_arr w4 27 #[.int .i64 n0, (.slice x0a l0.length x0c)] 2 rfl (by omega) (Nat.le_refl _))
    have hb6 := hb5.alloc hb5.size (.cells #[.int .i64 n0, (.slice x0a l0.length x0c)] 27)
    have A0O6 := own_alloc A0O5 (.cells #[.int .i64 n0, (.slice x0a l0.length x0c)] 27)
    have c0O6 := own_alloc c0O5 (.cells #[.int .i64 n0, (.slice x0a l0.length x0c)] 27)
    have x0O6 := own_alloc x0O5 (.cells #[.int .i64 n0, (.slice x0a l0.length x0c)] 27)
    have X0O6 := (own_arr w4 27 #[.int .i64 n0, (.slice x0a l0.length x0c)] 2 rfl (by omega) (Nat.le_refl _)).mono hb5.size
    clear hb5 A0O5 c0O5 x0O5
    have A0c0 := A0O6.reads.cell 0 _ rfl
    rw [adr_arr] at A0c0
    have A0c1 := A0O6.reads.cell 1 _ rfl
    rw [adr_arr] at A0c1
    have X0c0 := X0O6.reads.cell 0 _ rfl
    rw [adr_arr] at X0c0
    have X0c1 := X0O6.reads.cell 1 _ rfl
    rw [adr_arr] at X0c1
    go_wp2_with fail
    refine (expo_impl _ _ _ _ x0O6.reads).mono ?_
    rintro e w5 ⟨rfl, hs⟩
    have hb7 := hb6.trans (hs.mono hb6.size)
    have A0O7 := A0O6.below hs
    have c0O7 := c0O6.below hs
    have x0O7 := x0O6.below hs
    have X0O7 := X0O6.below hs
    clear hs hb6 A0O6 c0O6 x0O6 X0O6
    have A0c0 := A0O7.reads.cell 0 _ rfl
    rw [adr_arr] at A0c0
    have A0c1 := A0O7.reads.cell 1 _ rfl
    rw [adr_arr] at A0c1
    have X0c0 := X0O7.reads.cell 0 _ rfl
    rw [adr_arr] at X0c0
    have X0c1 := X0O7.reads.cell 1 _ rfl
    rw [adr_arr] at X0c1
    go_wp2_with fail
    have hK := hid (fun (w' : World) (hw : Below (w5).heap.size w5 w') => (⟨by have := (A0O7.below hw).reads.cell 0 _ rfl; rwa [adr_arr] at this, by have := (A0O7.below hw).reads.cell 1 _ rfl; rwa [adr_arr] at this, by have := (X0O7.below hw).reads.cell 0 _ rfl; rwa [adr_arr] at this, by have := (X0O7.below hw).reads.cell 1 _ rfl; rwa [adr_arr] at this⟩ : w'.cell? ⟨(W).heap.size, 0, none⟩ = some (.int .i64 n0) ∧ w'.cell? ⟨(W).heap.size, 1, none⟩ = some (a0) ∧ w'.cell? ⟨(w4).heap.size, 0, none⟩ = some (.int .i64 n0) ∧ w'.cell? ⟨(w4).heap.size, 1, none⟩ = some ((.slice x0a l0.length x0c))))
    have hR := hid (fun (w' : World) (hw : Below (w5).heap.size w5 w') => (⟨h0.below (hb7.trans (hw.mono hb7.size)), (x0O7.below hw).reads⟩ : Reads w' a0 (ints l0) ∧ Reads w' (.slice x0a l0.length x0c) (ints l0)))
    clear A0O7 c0O7 x0O7 X0O7
    go_region_held3 (fun w' => Below (w5).heap.size w5 w' ∧ w'.cell? ⟨(W).heap.size, 0, none⟩ = some (.int .i64 n0) ∧ w'.cell? ⟨(W).heap.size, 1, none⟩ = some (a0) ∧ w'.cell? ⟨(w4).heap.size, 0, none⟩ = some (.int .i64 n0) ∧ w'.cell? ⟨(w4).heap.size, 1, none⟩ = some ((.slice x0a l0.length x0c))) (first | exact ⟨(Below.refl _ _).drew, hK.out _ (Below.refl _ _).drew⟩ | exact ⟨hbT, hK.out _ hbT⟩ | exact ⟨hbS, hK.out _ hbS⟩) ((first | (go_at_call 16; refine (toB _ _ _ _ (hR.out _ (Below.refl _ _).drew).1 (by omega)).mono ?_; rintro e wy ⟨y0, rfl, hoy, hsy⟩; have hbS := (Below.refl w5.heap.size w5).drew.trans (hsy.mono (by simp))) | (go_at_call 18; refine (eqB _ _ _ _ _ _ _ (hR.out _ hbS).2 hoy.reads).mono ?_; rintro e wz ⟨rfl, hsz⟩; have hbT := hbS.trans (hsz.mono hbS.size); rw [show (n0 == n0 && decide (l0 = l0)) = true by simp])))
    go_wp2_with fail
    go_ret
    exact ⟨rfl, hb7.trans (hbT.mono hb7.size)⟩


end Go.Proofs.Ytoomkkeffejcdaa
