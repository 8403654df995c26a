/- Walks of the exact laws on meets and joins. -/
import Derived.Test.YtgibgcjpehcemaaCpd
import Derived.Test.YtgibgcjpehcemaaApq
import Derived.Test.YtgibgcjpehcemaaLwa
namespace Go.Proofs.Ytgibgcjpehcemaa
open Go.RowKit

set_option maxHeartbeats 2000000 in
theorem walk_FnExactJoinPermutations (a0 : Value) (l0 : List Int) (a1 : Value) (l1 : List Int) (W : World) (h0 : Reads W a0 (ints l0)) (h1 : Reads W a1 (ints l1)) :
    Calls Try.prog 5 #[a0, a1] W fun e w' => e = .returned (.bool true) ∧ Below W.heap.size W w' := by
  have hs0 := h0.small
  have hlen0 := h0.len (P := Try.prog) 22 3 ⟨_, sliceI⟩
  simp only [length_ints] at hs0 hlen0
  have hs1 := h1.small
  have hlen1 := h1.len (P := Try.prog) 22 3 ⟨_, sliceI⟩
  simp only [length_ints] at hs1 hlen1
  by_cases hl0 : l0.length ≤ 1048576
  rotate_left
  · go_enter Try.func5, Try.ntmps5
    go_wp2_with fail
    go_ret
    exact ⟨rfl, Below.refl _ _⟩
  by_cases hl1 : l1.length ≤ 1048576
  rotate_left
  · go_enter Try.func5, Try.ntmps5
    go_wp2_with fail
    go_ret
    exact ⟨rfl, Below.refl _ _⟩
  go_enter Try.func5, Try.ntmps5
  have hb0 : Below W.heap.size W W := Below.refl _ _
  go_wp2_with fail
  refine (toI _ _ _ (h0.below hb0) hl0).mono ?_
  rintro e w1 ⟨c0, rfl, ho, hs⟩
  have c0O1 := ho.mono hb0.size
  have hb1 := hb0.trans (hs.mono hb0.size)
  clear ho
  clear hb0 hs
  go_wp2_with fail
  refine (toI _ _ _ (h1.below hb1) hl1).mono ?_
  rintro e w2 ⟨c1, rfl, ho, hs⟩
  have ap_c0_c1 : Apart c0 c1 := apart_new c0O1 ho
  have ap_c1_c0 : Apart c1 c0 := apart_new' c0O1 ho
  have c1O2 := ho.mono hb1.size
  have hb2 := hb1.trans (hs.mono hb1.size)
  have c0O2 := c0O1.below hs
  clear ho
  clear hb1 c0O1 hs
  go_wp2_with fail
  refine (JoinS _ _ _ _ _ c0O2.reads c1O2.reads).mono ?_
  rintro e w3 ⟨v0, rfl, ho, hs⟩
  have ap_c0_v0 : Apart c0 v0 := apart_new c0O2 ho
  have ap_v0_c0 : Apart v0 c0 := apart_new' c0O2 ho
  have ap_c1_v0 : Apart c1 v0 := apart_new c1O2 ho
  have ap_v0_c1 : Apart v0 c1 := apart_new' c1O2 ho
  have v0O3 := ho.mono hb2.size
  have hb3 := hb2.trans (hs.mono hb2.size)
  have c0O3 := c0O2.below hs
  have c1O3 := c1O2.below hs
  clear ho
  clear hb2 c0O2 c1O2 hs
  go_wp2_with fail
  refine (toI _ _ _ (h0.below hb3) hl0).mono ?_
  rintro e w4 ⟨x0, rfl, ho, hs⟩
  have ap_c0_x0 : Apart c0 x0 := apart_new c0O3 ho
  have ap_x0_c0 : Apart x0 c0 := apart_new' c0O3 ho
  have ap_c1_x0 : Apart c1 x0 := apart_new c1O3 ho
  have ap_x0_c1 : Apart x0 c1 := apart_new' c1O3 ho
  have ap_v0_x0 : Apart v0 x0 := apart_new v0O3 ho
  have ap_x0_v0 : Apart x0 v0 := apart_new' v0O3 ho
  have x0O4 := ho.mono hb3.size
  have hb4 := hb3.trans (hs.mono hb3.size)
  have c0O4 := c0O3.below hs
  have c1O4 := c1O3.below hs
  have v0O4 := v0O3.below hs
  clear ho
  clear hb3 c0O3 c1O3 v0O3 hs
  go_wp2_with fail
  refine (toI _ _ _ (h1.below hb4) hl1).mono ?_
  rintro e w5 ⟨x1, rfl, ho, hs⟩
  have ap_c0_x1 : Apart c0 x1 := apart_new c0O4 ho
  have ap_x1_c0 : Apart x1 c0 := apart_new' c0O4 ho
  have ap_c1_x1 : Apart c1 x1 := apart_new c1O4 ho
  have ap_x1_c1 : Apart x1 c1 := apart_new' c1O4 ho
  have ap_v0_x1 : Apart v0 x1 := apart_new v0O4 ho
  have ap_x1_v0 : Apart x1 v0 := apart_new' v0O4 ho
  have ap_x0_x1 : Apart x0 x1 := apart_new x0O4 ho
  have ap_x1_x0 : Apart x1 x0 := apart_new' x0O4 ho
  have x1O5 := ho.mono hb4.size
  have hb5 := hb4.trans (hs.mono hb4.size)
  have c0O5 := c0O4.below hs
  have c1O5 := c1O4.below hs
  have v0O5 := v0O4.below hs
  have x0O5 := x0O4.below hs
  clear ho
  clear hb4 c0O4 c1O4 v0O4 x0O4 hs
  go_wp2_with fail
  refine (JoinI _ _ _ _ _ x0O5.reads x1O5.reads).mono ?_
  rintro e w6 ⟨g0, rfl, ho, hs⟩
  have ap_c0_g0 : Apart c0 g0 := apart_new c0O5 ho
  have ap_g0_c0 : Apart g0 c0 := apart_new' c0O5 ho
  have ap_c1_g0 : Apart c1 g0 := apart_new c1O5 ho
  have ap_g0_c1 : Apart g0 c1 := apart_new' c1O5 ho
  have ap_v0_g0 : Apart v0 g0 := apart_new v0O5 ho
  have ap_g0_v0 : Apart g0 v0 := apart_new' v0O5 ho
  have ap_x0_g0 : Apart x0 g0 := apart_new x0O5 ho
  have ap_g0_x0 : Apart g0 x0 := apart_new' x0O5 ho
  have ap_x1_g0 : Apart x1 g0 := apart_new x1O5 ho
  have ap_g0_x1 : Apart g0 x1 := apart_new' x1O5 ho
  have g0O6 := ho.mono hb5.size
  have hb6 := hb5.trans (hs.mono hb5.size)
  have c0O6 := c0O5.below hs
  have c1O6 := c1O5.below hs
  have v0O6 := v0O5.below hs
  have x0O6 := x0O5.below hs
  have x1O6 := x1O5.below hs
  clear ho
  clear hb5 c0O5 c1O5 v0O5 x0O5 x1O5 hs
  go_wp2_with fail
  refine (eqI _ _ _ _ _ g0O6.reads v0O6.reads).mono ?_
  rintro e w7 ⟨rfl, hs⟩
  have hb7 := hb6.trans (hs.mono hb6.size)
  have c0O7 := c0O6.below hs
  have c1O7 := c1O6.below hs
  have v0O7 := v0O6.below hs
  have x0O7 := x0O6.below hs
  have x1O7 := x1O6.below hs
  have g0O7 := g0O6.below hs
  clear hb6 c0O6 c1O6 v0O6 x0O6 x1O6 g0O6 hs
  rw [decide_eq_true rfl]
  go_wp2_with fail
  refine (toI _ _ _ (h0.below hb7) hl0).mono ?_
  rintro e w8 ⟨y0, rfl, ho, hs⟩
  have ap_c0_y0 : Apart c0 y0 := apart_new c0O7 ho
  have ap_y0_c0 : Apart y0 c0 := apart_new' c0O7 ho
  have ap_c1_y0 : Apart c1 y0 := apart_new c1O7 ho
  have ap_y0_c1 : Apart y0 c1 := apart_new' c1O7 ho
  have ap_v0_y0 : Apart v0 y0 := apart_new v0O7 ho
  have ap_y0_v0 : Apart y0 v0 := apart_new' v0O7 ho
  have ap_x0_y0 : Apart x0 y0 := apart_new x0O7 ho
  have ap_y0_x0 : Apart y0 x0 := apart_new' x0O7 ho
  have ap_x1_y0 : Apart x1 y0 := apart_new x1O7 ho
  have ap_y0_x1 : Apart y0 x1 := apart_new' x1O7 ho
  have ap_g0_y0 : Apart g0 y0 := apart_new g0O7 ho
  have ap_y0_g0 : Apart y0 g0 := apart_new' g0O7 ho
  have y0O8 := ho.mono hb7.size
  have hb8 := hb7.trans (hs.mono hb7.size)
  have c0O8 := c0O7.below hs
  have c1O8 := c1O7.below hs
  have v0O8 := v0O7.below hs
  have x0O8 := x0O7.below hs
  have x1O8 := x1O7.below hs
  have g0O8 := g0O7.below hs
  clear ho
  clear hb7 c0O7 c1O7 v0O7 x0O7 x1O7 g0O7 hs
  go_wp2_with fail
  refine (eqI _ _ _ _ _ x0O8.reads y0O8.reads).mono ?_
  rintro e w9 ⟨rfl, hs⟩
  have hb9 := hb8.trans (hs.mono hb8.size)
  have c0O9 := c0O8.below hs
  have c1O9 := c1O8.below hs
  have v0O9 := v0O8.below hs
  have x0O9 := x0O8.below hs
  have x1O9 := x1O8.below hs
  have g0O9 := g0O8.below hs
  have y0O9 := y0O8.below hs
  clear hb8 c0O8 c1O8 v0O8 x0O8 x1O8 g0O8 y0O8 hs
  rw [decide_eq_true rfl]
  go_wp2_with fail
  refine (toI _ _ _ (h1.below hb9) hl1).mono ?_
  rintro e w10 ⟨y1, rfl, ho, hs⟩
  have ap_c0_y1 : Apart c0 y1 := apart_new c0O9 ho
  have ap_y1_c0 : Apart y1 c0 := apart_new' c0O9 ho
  have ap_c1_y1 : Apart c1 y1 := apart_new c1O9 ho
  have ap_y1_c1 : Apart y1 c1 := apart_new' c1O9 ho
  have ap_v0_y1 : Apart v0 y1 := apart_new v0O9 ho
  have ap_y1_v0 : Apart y1 v0 := apart_new' v0O9 ho
  have ap_x0_y1 : Apart x0 y1 := apart_new x0O9 ho
  have ap_y1_x0 : Apart y1 x0 := apart_new' x0O9 ho
  have ap_x1_y1 : Apart x1 y1 := apart_new x1O9 ho
  have ap_y1_x1 : Apart y1 x1 := apart_new' x1O9 ho
  have ap_g0_y1 : Apart g0 y1 := apart_new g0O9 ho
  have ap_y1_g0 : Apart y1 g0 := apart_new' g0O9 ho
  have ap_y0_y1 : Apart y0 y1 := apart_new y0O9 ho
  have ap_y1_y0 : Apart y1 y0 := apart_new' y0O9 ho
  have y1O10 := ho.mono hb9.size
  have hb10 := hb9.trans (hs.mono hb9.size)
  have c0O10 := c0O9.below hs
  have c1O10 := c1O9.below hs
  have v0O10 := v0O9.below hs
  have x0O10 := x0O9.below hs
  have x1O10 := x1O9.below hs
  have g0O10 := g0O9.below hs
  have y0O10 := y0O9.below hs
  clear ho
  clear hb9 c0O9 c1O9 v0O9 x0O9 x1O9 g0O9 y0O9 hs
  go_wp2_with fail
  refine (eqI _ _ _ _ _ x1O10.reads y1O10.reads).mono ?_
  rintro e w11 ⟨rfl, hs⟩
  have hb11 := hb10.trans (hs.mono hb10.size)
  have c0O11 := c0O10.below hs
  have c1O11 := c1O10.below hs
  have v0O11 := v0O10.below hs
  have x0O11 := x0O10.below hs
  have x1O11 := x1O10.below hs
  have g0O11 := g0O10.below hs
  have y0O11 := y0O10.below hs
  have y1O11 := y1O10.below hs
  clear hb10 c0O10 c1O10 v0O10 x0O10 x1O10 g0O10 y0O10 y1O10 hs
  rw [decide_eq_true rfl]
  go_wp2_with fail
  refine (markI _ _ (1) _ x0O11 (by omega) (by omega) (by omega)).mono ?_
  rintro e w12 ⟨rfl, ho, hs⟩
  have hb12 := hb11.grown hs hb11.size (fun k hk => (x0O11.blk_lt hk).1)
  have c0O12 := c0O11.grown hs (ap_c0_x0).ne
  have c1O12 := c1O11.grown hs (ap_c1_x0).ne
  have v0O12 := v0O11.grown hs (ap_v0_x0).ne
  have x1O12 := x1O11.grown hs (ap_x1_x0).ne
  have g0O12 := g0O11.grown hs (ap_g0_x0).ne
  have y0O12 := y0O11.grown hs (ap_y0_x0).ne
  have y1O12 := y1O11.grown hs (ap_y1_x0).ne
  have x0O12 := ho
  clear ho
  clear hb11 c0O11 c1O11 v0O11 x0O11 x1O11 g0O11 y0O11 y1O11 hs
  go_wp2_with fail
  refine (markI _ _ (1 + (l0.length : Nat)) _ x1O12 (by omega) (by omega) (by omega)).mono ?_
  rintro e w13 ⟨rfl, ho, hs⟩
  have hb13 := hb12.grown hs hb12.size (fun k hk => (x1O12.blk_lt hk).1)
  have c0O13 := c0O12.grown hs (ap_c0_x1).ne
  have c1O13 := c1O12.grown hs (ap_c1_x1).ne
  have v0O13 := v0O12.grown hs (ap_v0_x1).ne
  have x0O13 := x0O12.grown hs (ap_x0_x1).ne
  have g0O13 := g0O12.grown hs (ap_g0_x1).ne
  have y0O13 := y0O12.grown hs (ap_y0_x1).ne
  have y1O13 := y1O12.grown hs (ap_y1_x1).ne
  have x1O13 := ho
  clear ho
  clear hb12 c0O12 c1O12 v0O12 x0O12 x1O12 g0O12 y0O12 y1O12 hs
  go_wp2_with fail
  refine (eqI _ _ _ _ _ g0O13.reads v0O13.reads).mono ?_
  rintro e w14 ⟨rfl, hs⟩
  have hb14 := hb13.trans (hs.mono hb13.size)
  have c0O14 := c0O13.below hs
  have c1O14 := c1O13.below hs
  have v0O14 := v0O13.below hs
  have x0O14 := x0O13.below hs
  have x1O14 := x1O13.below hs
  have g0O14 := g0O13.below hs
  have y0O14 := y0O13.below hs
  have y1O14 := y1O13.below hs
  clear hb13 c0O13 c1O13 v0O13 x0O13 x1O13 g0O13 y0O13 y1O13 hs
  rw [decide_eq_true rfl]
  go_wp2_with fail
  refine (markI _ _ (1) _ g0O14 (by have := onlyIf_le (b := okP l0 && okP l1 && decide (l0.length = l1.length)) (l := joinF l0 l1) (n := 12) (fun h => by have := (okP_of (by simp at h; exact h.1.1)).1; rw [length_joinF]; simpa using this); omega) (by omega) (by omega)).mono ?_
  rintro e w15 ⟨rfl, ho, hs⟩
  have hb15 := hb14.grown hs hb14.size (fun k hk => (g0O14.blk_lt hk).1)
  have c0O15 := c0O14.grown hs (ap_c0_g0).ne
  have c1O15 := c1O14.grown hs (ap_c1_g0).ne
  have v0O15 := v0O14.grown hs (ap_v0_g0).ne
  have x0O15 := x0O14.grown hs (ap_x0_g0).ne
  have x1O15 := x1O14.grown hs (ap_x1_g0).ne
  have y0O15 := y0O14.grown hs (ap_y0_g0).ne
  have y1O15 := y1O14.grown hs (ap_y1_g0).ne
  have g0O15 := ho
  clear ho
  clear hb14 c0O14 c1O14 v0O14 x0O14 x1O14 g0O14 y0O14 y1O14 hs
  go_wp2_with fail
  refine (heldI _ _ (1) _ g0O15.reads (by have := onlyIf_le (b := okP l0 && okP l1 && decide (l0.length = l1.length)) (l := joinF l0 l1) (n := 12) (fun h => by have := (okP_of (by simp at h; exact h.1.1)).1; rw [length_joinF]; simpa using this); omega) (by omega) (by omega)).mono ?_
  rintro e w16 ⟨rfl, hs⟩
  have hb16 := hb15.trans (hs.mono hb15.size)
  have c0O16 := c0O15.below hs
  have c1O16 := c1O15.below hs
  have v0O16 := v0O15.below hs
  have x0O16 := x0O15.below hs
  have x1O16 := x1O15.below hs
  have g0O16 := g0O15.below hs
  have y0O16 := y0O15.below hs
  have y1O16 := y1O15.below hs
  clear hb15 c0O15 c1O15 v0O15 x0O15 x1O15 g0O15 y0O15 y1O15 hs
  go_wp2_with fail
  refine (toI _ _ _ (h0.below hb16) hl0).mono ?_
  rintro e w17 ⟨d0, rfl, ho, hs⟩
  have ap_c0_d0 : Apart c0 d0 := apart_new c0O16 ho
  have ap_d0_c0 : Apart d0 c0 := apart_new' c0O16 ho
  have ap_c1_d0 : Apart c1 d0 := apart_new c1O16 ho
  have ap_d0_c1 : Apart d0 c1 := apart_new' c1O16 ho
  have ap_v0_d0 : Apart v0 d0 := apart_new v0O16 ho
  have ap_d0_v0 : Apart d0 v0 := apart_new' v0O16 ho
  have ap_x0_d0 : Apart x0 d0 := apart_new x0O16 ho
  have ap_d0_x0 : Apart d0 x0 := apart_new' x0O16 ho
  have ap_x1_d0 : Apart x1 d0 := apart_new x1O16 ho
  have ap_d0_x1 : Apart d0 x1 := apart_new' x1O16 ho
  have ap_g0_d0 : Apart g0 d0 := apart_new g0O16 ho
  have ap_d0_g0 : Apart d0 g0 := apart_new' g0O16 ho
  have ap_y0_d0 : Apart y0 d0 := apart_new y0O16 ho
  have ap_d0_y0 : Apart d0 y0 := apart_new' y0O16 ho
  have ap_y1_d0 : Apart y1 d0 := apart_new y1O16 ho
  have ap_d0_y1 : Apart d0 y1 := apart_new' y1O16 ho
  have d0O17 := ho.mono hb16.size
  have hb17 := hb16.trans (hs.mono hb16.size)
  have c0O17 := c0O16.below hs
  have c1O17 := c1O16.below hs
  have v0O17 := v0O16.below hs
  have x0O17 := x0O16.below hs
  have x1O17 := x1O16.below hs
  have g0O17 := g0O16.below hs
  have y0O17 := y0O16.below hs
  have y1O17 := y1O16.below hs
  clear ho
  clear hb16 c0O16 c1O16 v0O16 x0O16 x1O16 g0O16 y0O16 y1O16 hs
  go_wp2_with fail
  refine (toI _ _ _ (h1.below hb17) hl1).mono ?_
  rintro e w18 ⟨d1, rfl, ho, hs⟩
  have ap_c0_d1 : Apart c0 d1 := apart_new c0O17 ho
  have ap_d1_c0 : Apart d1 c0 := apart_new' c0O17 ho
  have ap_c1_d1 : Apart c1 d1 := apart_new c1O17 ho
  have ap_d1_c1 : Apart d1 c1 := apart_new' c1O17 ho
  have ap_v0_d1 : Apart v0 d1 := apart_new v0O17 ho
  have ap_d1_v0 : Apart d1 v0 := apart_new' v0O17 ho
  have ap_x0_d1 : Apart x0 d1 := apart_new x0O17 ho
  have ap_d1_x0 : Apart d1 x0 := apart_new' x0O17 ho
  have ap_x1_d1 : Apart x1 d1 := apart_new x1O17 ho
  have ap_d1_x1 : Apart d1 x1 := apart_new' x1O17 ho
  have ap_g0_d1 : Apart g0 d1 := apart_new g0O17 ho
  have ap_d1_g0 : Apart d1 g0 := apart_new' g0O17 ho
  have ap_y0_d1 : Apart y0 d1 := apart_new y0O17 ho
  have ap_d1_y0 : Apart d1 y0 := apart_new' y0O17 ho
  have ap_y1_d1 : Apart y1 d1 := apart_new y1O17 ho
  have ap_d1_y1 : Apart d1 y1 := apart_new' y1O17 ho
  have ap_d0_d1 : Apart d0 d1 := apart_new d0O17 ho
  have ap_d1_d0 : Apart d1 d0 := apart_new' d0O17 ho
  have d1O18 := ho.mono hb17.size
  have hb18 := hb17.trans (hs.mono hb17.size)
  have c0O18 := c0O17.below hs
  have c1O18 := c1O17.below hs
  have v0O18 := v0O17.below hs
  have x0O18 := x0O17.below hs
  have x1O18 := x1O17.below hs
  have g0O18 := g0O17.below hs
  have y0O18 := y0O17.below hs
  have y1O18 := y1O17.below hs
  have d0O18 := d0O17.below hs
  clear ho
  clear hb17 c0O17 c1O17 v0O17 x0O17 x1O17 g0O17 y0O17 y1O17 d0O17 hs
  go_wp2_with fail
  refine (JoinI _ _ _ _ _ d0O18.reads d1O18.reads).mono ?_
  rintro e w19 ⟨r0, rfl, ho, hs⟩
  have ap_c0_r0 : Apart c0 r0 := apart_new c0O18 ho
  have ap_r0_c0 : Apart r0 c0 := apart_new' c0O18 ho
  have ap_c1_r0 : Apart c1 r0 := apart_new c1O18 ho
  have ap_r0_c1 : Apart r0 c1 := apart_new' c1O18 ho
  have ap_v0_r0 : Apart v0 r0 := apart_new v0O18 ho
  have ap_r0_v0 : Apart r0 v0 := apart_new' v0O18 ho
  have ap_x0_r0 : Apart x0 r0 := apart_new x0O18 ho
  have ap_r0_x0 : Apart r0 x0 := apart_new' x0O18 ho
  have ap_x1_r0 : Apart x1 r0 := apart_new x1O18 ho
  have ap_r0_x1 : Apart r0 x1 := apart_new' x1O18 ho
  have ap_g0_r0 : Apart g0 r0 := apart_new g0O18 ho
  have ap_r0_g0 : Apart r0 g0 := apart_new' g0O18 ho
  have ap_y0_r0 : Apart y0 r0 := apart_new y0O18 ho
  have ap_r0_y0 : Apart r0 y0 := apart_new' y0O18 ho
  have ap_y1_r0 : Apart y1 r0 := apart_new y1O18 ho
  have ap_r0_y1 : Apart r0 y1 := apart_new' y1O18 ho
  have ap_d0_r0 : Apart d0 r0 := apart_new d0O18 ho
  have ap_r0_d0 : Apart r0 d0 := apart_new' d0O18 ho
  have ap_d1_r0 : Apart d1 r0 := apart_new d1O18 ho
  have ap_r0_d1 : Apart r0 d1 := apart_new' d1O18 ho
  have r0O19 := ho.mono hb18.size
  have hb19 := hb18.trans (hs.mono hb18.size)
  have c0O19 := c0O18.below hs
  have c1O19 := c1O18.below hs
  have v0O19 := v0O18.below hs
  have x0O19 := x0O18.below hs
  have x1O19 := x1O18.below hs
  have g0O19 := g0O18.below hs
  have y0O19 := y0O18.below hs
  have y1O19 := y1O18.below hs
  have d0O19 := d0O18.below hs
  have d1O19 := d1O18.below hs
  clear ho
  clear hb18 c0O18 c1O18 v0O18 x0O18 x1O18 g0O18 y0O18 y1O18 d0O18 d1O18 hs
  go_wp2_with fail
  refine (eqI _ _ _ _ _ r0O19.reads v0O19.reads).mono ?_
  rintro e w20 ⟨rfl, hs⟩
  have hb20 := hb19.trans (hs.mono hb19.size)
  have c0O20 := c0O19.below hs
  have c1O20 := c1O19.below hs
  have v0O20 := v0O19.below hs
  have x0O20 := x0O19.below hs
  have x1O20 := x1O19.below hs
  have g0O20 := g0O19.below hs
  have y0O20 := y0O19.below hs
  have y1O20 := y1O19.below hs
  have d0O20 := d0O19.below hs
  have d1O20 := d1O19.below hs
  have r0O20 := r0O19.below hs
  clear hb19 c0O19 c1O19 v0O19 x0O19 x1O19 g0O19 y0O19 y1O19 d0O19 d1O19 r0O19 hs
  rw [decide_eq_true rfl]
  go_wp2_with fail
  refine (heldI _ _ (1) _ g0O20.reads (by have := onlyIf_le (b := okP l0 && okP l1 && decide (l0.length = l1.length)) (l := joinF l0 l1) (n := 12) (fun h => by have := (okP_of (by simp at h; exact h.1.1)).1; rw [length_joinF]; simpa using this); omega) (by omega) (by omega)).mono ?_
  rintro e w21 ⟨rfl, hs⟩
  have hb21 := hb20.trans (hs.mono hb20.size)
  have c0O21 := c0O20.below hs
  have c1O21 := c1O20.below hs
  have v0O21 := v0O20.below hs
  have x0O21 := x0O20.below hs
  have x1O21 := x1O20.below hs
  have g0O21 := g0O20.below hs
  have y0O21 := y0O20.below hs
  have y1O21 := y1O20.below hs
  have d0O21 := d0O20.below hs
  have d1O21 := d1O20.below hs
  have r0O21 := r0O20.below hs
  clear hb20 c0O20 c1O20 v0O20 x0O20 x1O20 g0O20 y0O20 y1O20 d0O20 d1O20 r0O20 hs
  go_wp2_with fail
  go_ret
  exact ⟨rfl, hb21⟩

set_option maxHeartbeats 2000000 in
theorem walk_FnExactMeetPermutations (a0 : Value) (l0 : List Int) (a1 : Value) (l1 : List Int) (W : World) (h0 : Reads W a0 (ints l0)) (h1 : Reads W a1 (ints l1)) :
    Calls Try.prog 6 #[a0, a1] W fun e w' => e = .returned (.bool true) ∧ Below W.heap.size W w' := by
  have hs0 := h0.small
  have hlen0 := h0.len (P := Try.prog) 22 3 ⟨_, sliceI⟩
  simp only [length_ints] at hs0 hlen0
  have hs1 := h1.small
  have hlen1 := h1.len (P := Try.prog) 22 3 ⟨_, sliceI⟩
  simp only [length_ints] at hs1 hlen1
  by_cases hl0 : l0.length ≤ 1048576
  rotate_left
  · go_enter Try.func6, Try.ntmps6
    go_wp2_with fail
    go_ret
    exact ⟨rfl, Below.refl _ _⟩
  by_cases hl1 : l1.length ≤ 1048576
  rotate_left
  · go_enter Try.func6, Try.ntmps6
    go_wp2_with fail
    go_ret
    exact ⟨rfl, Below.refl _ _⟩
  go_enter Try.func6, Try.ntmps6
  have hb0 : Below W.heap.size W W := Below.refl _ _
  go_wp2_with fail
  refine (toI _ _ _ (h0.below hb0) hl0).mono ?_
  rintro e w1 ⟨c0, rfl, ho, hs⟩
  have c0O1 := ho.mono hb0.size
  have hb1 := hb0.trans (hs.mono hb0.size)
  clear ho
  clear hb0 hs
  go_wp2_with fail
  refine (toI _ _ _ (h1.below hb1) hl1).mono ?_
  rintro e w2 ⟨c1, rfl, ho, hs⟩
  have ap_c0_c1 : Apart c0 c1 := apart_new c0O1 ho
  have ap_c1_c0 : Apart c1 c0 := apart_new' c0O1 ho
  have c1O2 := ho.mono hb1.size
  have hb2 := hb1.trans (hs.mono hb1.size)
  have c0O2 := c0O1.below hs
  clear ho
  clear hb1 c0O1 hs
  go_wp2_with fail
  refine (MeetS _ _ _ _ _ c0O2.reads c1O2.reads).mono ?_
  rintro e w3 ⟨v0, rfl, ho, hs⟩
  have ap_c0_v0 : Apart c0 v0 := apart_new c0O2 ho
  have ap_v0_c0 : Apart v0 c0 := apart_new' c0O2 ho
  have ap_c1_v0 : Apart c1 v0 := apart_new c1O2 ho
  have ap_v0_c1 : Apart v0 c1 := apart_new' c1O2 ho
  have v0O3 := ho.mono hb2.size
  have hb3 := hb2.trans (hs.mono hb2.size)
  have c0O3 := c0O2.below hs
  have c1O3 := c1O2.below hs
  clear ho
  clear hb2 c0O2 c1O2 hs
  go_wp2_with fail
  refine (toI _ _ _ (h0.below hb3) hl0).mono ?_
  rintro e w4 ⟨x0, rfl, ho, hs⟩
  have ap_c0_x0 : Apart c0 x0 := apart_new c0O3 ho
  have ap_x0_c0 : Apart x0 c0 := apart_new' c0O3 ho
  have ap_c1_x0 : Apart c1 x0 := apart_new c1O3 ho
  have ap_x0_c1 : Apart x0 c1 := apart_new' c1O3 ho
  have ap_v0_x0 : Apart v0 x0 := apart_new v0O3 ho
  have ap_x0_v0 : Apart x0 v0 := apart_new' v0O3 ho
  have x0O4 := ho.mono hb3.size
  have hb4 := hb3.trans (hs.mono hb3.size)
  have c0O4 := c0O3.below hs
  have c1O4 := c1O3.below hs
  have v0O4 := v0O3.below hs
  clear ho
  clear hb3 c0O3 c1O3 v0O3 hs
  go_wp2_with fail
  refine (toI _ _ _ (h1.below hb4) hl1).mono ?_
  rintro e w5 ⟨x1, rfl, ho, hs⟩
  have ap_c0_x1 : Apart c0 x1 := apart_new c0O4 ho
  have ap_x1_c0 : Apart x1 c0 := apart_new' c0O4 ho
  have ap_c1_x1 : Apart c1 x1 := apart_new c1O4 ho
  have ap_x1_c1 : Apart x1 c1 := apart_new' c1O4 ho
  have ap_v0_x1 : Apart v0 x1 := apart_new v0O4 ho
  have ap_x1_v0 : Apart x1 v0 := apart_new' v0O4 ho
  have ap_x0_x1 : Apart x0 x1 := apart_new x0O4 ho
  have ap_x1_x0 : Apart x1 x0 := apart_new' x0O4 ho
  have x1O5 := ho.mono hb4.size
  have hb5 := hb4.trans (hs.mono hb4.size)
  have c0O5 := c0O4.below hs
  have c1O5 := c1O4.below hs
  have v0O5 := v0O4.below hs
  have x0O5 := x0O4.below hs
  clear ho
  clear hb4 c0O4 c1O4 v0O4 x0O4 hs
  go_wp2_with fail
  refine (MeetI _ _ _ _ _ x0O5.reads x1O5.reads).mono ?_
  rintro e w6 ⟨g0, rfl, ho, hs⟩
  have ap_c0_g0 : Apart c0 g0 := apart_new c0O5 ho
  have ap_g0_c0 : Apart g0 c0 := apart_new' c0O5 ho
  have ap_c1_g0 : Apart c1 g0 := apart_new c1O5 ho
  have ap_g0_c1 : Apart g0 c1 := apart_new' c1O5 ho
  have ap_v0_g0 : Apart v0 g0 := apart_new v0O5 ho
  have ap_g0_v0 : Apart g0 v0 := apart_new' v0O5 ho
  have ap_x0_g0 : Apart x0 g0 := apart_new x0O5 ho
  have ap_g0_x0 : Apart g0 x0 := apart_new' x0O5 ho
  have ap_x1_g0 : Apart x1 g0 := apart_new x1O5 ho
  have ap_g0_x1 : Apart g0 x1 := apart_new' x1O5 ho
  have g0O6 := ho.mono hb5.size
  have hb6 := hb5.trans (hs.mono hb5.size)
  have c0O6 := c0O5.below hs
  have c1O6 := c1O5.below hs
  have v0O6 := v0O5.below hs
  have x0O6 := x0O5.below hs
  have x1O6 := x1O5.below hs
  clear ho
  clear hb5 c0O5 c1O5 v0O5 x0O5 x1O5 hs
  go_wp2_with fail
  refine (eqI _ _ _ _ _ g0O6.reads v0O6.reads).mono ?_
  rintro e w7 ⟨rfl, hs⟩
  have hb7 := hb6.trans (hs.mono hb6.size)
  have c0O7 := c0O6.below hs
  have c1O7 := c1O6.below hs
  have v0O7 := v0O6.below hs
  have x0O7 := x0O6.below hs
  have x1O7 := x1O6.below hs
  have g0O7 := g0O6.below hs
  clear hb6 c0O6 c1O6 v0O6 x0O6 x1O6 g0O6 hs
  rw [decide_eq_true rfl]
  go_wp2_with fail
  refine (toI _ _ _ (h0.below hb7) hl0).mono ?_
  rintro e w8 ⟨y0, rfl, ho, hs⟩
  have ap_c0_y0 : Apart c0 y0 := apart_new c0O7 ho
  have ap_y0_c0 : Apart y0 c0 := apart_new' c0O7 ho
  have ap_c1_y0 : Apart c1 y0 := apart_new c1O7 ho
  have ap_y0_c1 : Apart y0 c1 := apart_new' c1O7 ho
  have ap_v0_y0 : Apart v0 y0 := apart_new v0O7 ho
  have ap_y0_v0 : Apart y0 v0 := apart_new' v0O7 ho
  have ap_x0_y0 : Apart x0 y0 := apart_new x0O7 ho
  have ap_y0_x0 : Apart y0 x0 := apart_new' x0O7 ho
  have ap_x1_y0 : Apart x1 y0 := apart_new x1O7 ho
  have ap_y0_x1 : Apart y0 x1 := apart_new' x1O7 ho
  have ap_g0_y0 : Apart g0 y0 := apart_new g0O7 ho
  have ap_y0_g0 : Apart y0 g0 := apart_new' g0O7 ho
  have y0O8 := ho.mono hb7.size
  have hb8 := hb7.trans (hs.mono hb7.size)
  have c0O8 := c0O7.below hs
  have c1O8 := c1O7.below hs
  have v0O8 := v0O7.below hs
  have x0O8 := x0O7.below hs
  have x1O8 := x1O7.below hs
  have g0O8 := g0O7.below hs
  clear ho
  clear hb7 c0O7 c1O7 v0O7 x0O7 x1O7 g0O7 hs
  go_wp2_with fail
  refine (eqI _ _ _ _ _ x0O8.reads y0O8.reads).mono ?_
  rintro e w9 ⟨rfl, hs⟩
  have hb9 := hb8.trans (hs.mono hb8.size)
  have c0O9 := c0O8.below hs
  have c1O9 := c1O8.below hs
  have v0O9 := v0O8.below hs
  have x0O9 := x0O8.below hs
  have x1O9 := x1O8.below hs
  have g0O9 := g0O8.below hs
  have y0O9 := y0O8.below hs
  clear hb8 c0O8 c1O8 v0O8 x0O8 x1O8 g0O8 y0O8 hs
  rw [decide_eq_true rfl]
  go_wp2_with fail
  refine (toI _ _ _ (h1.below hb9) hl1).mono ?_
  rintro e w10 ⟨y1, rfl, ho, hs⟩
  have ap_c0_y1 : Apart c0 y1 := apart_new c0O9 ho
  have ap_y1_c0 : Apart y1 c0 := apart_new' c0O9 ho
  have ap_c1_y1 : Apart c1 y1 := apart_new c1O9 ho
  have ap_y1_c1 : Apart y1 c1 := apart_new' c1O9 ho
  have ap_v0_y1 : Apart v0 y1 := apart_new v0O9 ho
  have ap_y1_v0 : Apart y1 v0 := apart_new' v0O9 ho
  have ap_x0_y1 : Apart x0 y1 := apart_new x0O9 ho
  have ap_y1_x0 : Apart y1 x0 := apart_new' x0O9 ho
  have ap_x1_y1 : Apart x1 y1 := apart_new x1O9 ho
  have ap_y1_x1 : Apart y1 x1 := apart_new' x1O9 ho
  have ap_g0_y1 : Apart g0 y1 := apart_new g0O9 ho
  have ap_y1_g0 : Apart y1 g0 := apart_new' g0O9 ho
  have ap_y0_y1 : Apart y0 y1 := apart_new y0O9 ho
  have ap_y1_y0 : Apart y1 y0 := apart_new' y0O9 ho
  have y1O10 := ho.mono hb9.size
  have hb10 := hb9.trans (hs.mono hb9.size)
  have c0O10 := c0O9.below hs
  have c1O10 := c1O9.below hs
  have v0O10 := v0O9.below hs
  have x0O10 := x0O9.below hs
  have x1O10 := x1O9.below hs
  have g0O10 := g0O9.below hs
  have y0O10 := y0O9.below hs
  clear ho
  clear hb9 c0O9 c1O9 v0O9 x0O9 x1O9 g0O9 y0O9 hs
  go_wp2_with fail
  refine (eqI _ _ _ _ _ x1O10.reads y1O10.reads).mono ?_
  rintro e w11 ⟨rfl, hs⟩
  have hb11 := hb10.trans (hs.mono hb10.size)
  have c0O11 := c0O10.below hs
  have c1O11 := c1O10.below hs
  have v0O11 := v0O10.below hs
  have x0O11 := x0O10.below hs
  have x1O11 := x1O10.below hs
  have g0O11 := g0O10.below hs
  have y0O11 := y0O10.below hs
  have y1O11 := y1O10.below hs
  clear hb10 c0O10 c1O10 v0O10 x0O10 x1O10 g0O10 y0O10 y1O10 hs
  rw [decide_eq_true rfl]
  go_wp2_with fail
  refine (markI _ _ (1) _ x0O11 (by omega) (by omega) (by omega)).mono ?_
  rintro e w12 ⟨rfl, ho, hs⟩
  have hb12 := hb11.grown hs hb11.size (fun k hk => (x0O11.blk_lt hk).1)
  have c0O12 := c0O11.grown hs (ap_c0_x0).ne
  have c1O12 := c1O11.grown hs (ap_c1_x0).ne
  have v0O12 := v0O11.grown hs (ap_v0_x0).ne
  have x1O12 := x1O11.grown hs (ap_x1_x0).ne
  have g0O12 := g0O11.grown hs (ap_g0_x0).ne
  have y0O12 := y0O11.grown hs (ap_y0_x0).ne
  have y1O12 := y1O11.grown hs (ap_y1_x0).ne
  have x0O12 := ho
  clear ho
  clear hb11 c0O11 c1O11 v0O11 x0O11 x1O11 g0O11 y0O11 y1O11 hs
  go_wp2_with fail
  refine (markI _ _ (1 + (l0.length : Nat)) _ x1O12 (by omega) (by omega) (by omega)).mono ?_
  rintro e w13 ⟨rfl, ho, hs⟩
  have hb13 := hb12.grown hs hb12.size (fun k hk => (x1O12.blk_lt hk).1)
  have c0O13 := c0O12.grown hs (ap_c0_x1).ne
  have c1O13 := c1O12.grown hs (ap_c1_x1).ne
  have v0O13 := v0O12.grown hs (ap_v0_x1).ne
  have x0O13 := x0O12.grown hs (ap_x0_x1).ne
  have g0O13 := g0O12.grown hs (ap_g0_x1).ne
  have y0O13 := y0O12.grown hs (ap_y0_x1).ne
  have y1O13 := y1O12.grown hs (ap_y1_x1).ne
  have x1O13 := ho
  clear ho
  clear hb12 c0O12 c1O12 v0O12 x0O12 x1O12 g0O12 y0O12 y1O12 hs
  go_wp2_with fail
  refine (eqI _ _ _ _ _ g0O13.reads v0O13.reads).mono ?_
  rintro e w14 ⟨rfl, hs⟩
  have hb14 := hb13.trans (hs.mono hb13.size)
  have c0O14 := c0O13.below hs
  have c1O14 := c1O13.below hs
  have v0O14 := v0O13.below hs
  have x0O14 := x0O13.below hs
  have x1O14 := x1O13.below hs
  have g0O14 := g0O13.below hs
  have y0O14 := y0O13.below hs
  have y1O14 := y1O13.below hs
  clear hb13 c0O13 c1O13 v0O13 x0O13 x1O13 g0O13 y0O13 y1O13 hs
  rw [decide_eq_true rfl]
  go_wp2_with fail
  refine (markI _ _ (1) _ g0O14 (by have := onlyIf_le (b := okP l0 && okP l1 && decide (l0.length = l1.length)) (l := meetF l0 l1) (n := 12) (fun h => by have := (okP_of (by simp at h; exact h.1.1)).1; rw [length_meetF]; simpa using this); omega) (by omega) (by omega)).mono ?_
  rintro e w15 ⟨rfl, ho, hs⟩
  have hb15 := hb14.grown hs hb14.size (fun k hk => (g0O14.blk_lt hk).1)
  have c0O15 := c0O14.grown hs (ap_c0_g0).ne
  have c1O15 := c1O14.grown hs (ap_c1_g0).ne
  have v0O15 := v0O14.grown hs (ap_v0_g0).ne
  have x0O15 := x0O14.grown hs (ap_x0_g0).ne
  have x1O15 := x1O14.grown hs (ap_x1_g0).ne
  have y0O15 := y0O14.grown hs (ap_y0_g0).ne
  have y1O15 := y1O14.grown hs (ap_y1_g0).ne
  have g0O15 := ho
  clear ho
  clear hb14 c0O14 c1O14 v0O14 x0O14 x1O14 g0O14 y0O14 y1O14 hs
  go_wp2_with fail
  refine (heldI _ _ (1) _ g0O15.reads (by have := onlyIf_le (b := okP l0 && okP l1 && decide (l0.length = l1.length)) (l := meetF l0 l1) (n := 12) (fun h => by have := (okP_of (by simp at h; exact h.1.1)).1; rw [length_meetF]; simpa using this); omega) (by omega) (by omega)).mono ?_
  rintro e w16 ⟨rfl, hs⟩
  have hb16 := hb15.trans (hs.mono hb15.size)
  have c0O16 := c0O15.below hs
  have c1O16 := c1O15.below hs
  have v0O16 := v0O15.below hs
  have x0O16 := x0O15.below hs
  have x1O16 := x1O15.below hs
  have g0O16 := g0O15.below hs
  have y0O16 := y0O15.below hs
  have y1O16 := y1O15.below hs
  clear hb15 c0O15 c1O15 v0O15 x0O15 x1O15 g0O15 y0O15 y1O15 hs
  go_wp2_with fail
  refine (toI _ _ _ (h0.below hb16) hl0).mono ?_
  rintro e w17 ⟨d0, rfl, ho, hs⟩
  have ap_c0_d0 : Apart c0 d0 := apart_new c0O16 ho
  have ap_d0_c0 : Apart d0 c0 := apart_new' c0O16 ho
  have ap_c1_d0 : Apart c1 d0 := apart_new c1O16 ho
  have ap_d0_c1 : Apart d0 c1 := apart_new' c1O16 ho
  have ap_v0_d0 : Apart v0 d0 := apart_new v0O16 ho
  have ap_d0_v0 : Apart d0 v0 := apart_new' v0O16 ho
  have ap_x0_d0 : Apart x0 d0 := apart_new x0O16 ho
  have ap_d0_x0 : Apart d0 x0 := apart_new' x0O16 ho
  have ap_x1_d0 : Apart x1 d0 := apart_new x1O16 ho
  have ap_d0_x1 : Apart d0 x1 := apart_new' x1O16 ho
  have ap_g0_d0 : Apart g0 d0 := apart_new g0O16 ho
  have ap_d0_g0 : Apart d0 g0 := apart_new' g0O16 ho
  have ap_y0_d0 : Apart y0 d0 := apart_new y0O16 ho
  have ap_d0_y0 : Apart d0 y0 := apart_new' y0O16 ho
  have ap_y1_d0 : Apart y1 d0 := apart_new y1O16 ho
  have ap_d0_y1 : Apart d0 y1 := apart_new' y1O16 ho
  have d0O17 := ho.mono hb16.size
  have hb17 := hb16.trans (hs.mono hb16.size)
  have c0O17 := c0O16.below hs
  have c1O17 := c1O16.below hs
  have v0O17 := v0O16.below hs
  have x0O17 := x0O16.below hs
  have x1O17 := x1O16.below hs
  have g0O17 := g0O16.below hs
  have y0O17 := y0O16.below hs
  have y1O17 := y1O16.below hs
  clear ho
  clear hb16 c0O16 c1O16 v0O16 x0O16 x1O16 g0O16 y0O16 y1O16 hs
  go_wp2_with fail
  refine (toI _ _ _ (h1.below hb17) hl1).mono ?_
  rintro e w18 ⟨d1, rfl, ho, hs⟩
  have ap_c0_d1 : Apart c0 d1 := apart_new c0O17 ho
  have ap_d1_c0 : Apart d1 c0 := apart_new' c0O17 ho
  have ap_c1_d1 : Apart c1 d1 := apart_new c1O17 ho
  have ap_d1_c1 : Apart d1 c1 := apart_new' c1O17 ho
  have ap_v0_d1 : Apart v0 d1 := apart_new v0O17 ho
  have ap_d1_v0 : Apart d1 v0 := apart_new' v0O17 ho
  have ap_x0_d1 : Apart x0 d1 := apart_new x0O17 ho
  have ap_d1_x0 : Apart d1 x0 := apart_new' x0O17 ho
  have ap_x1_d1 : Apart x1 d1 := apart_new x1O17 ho
  have ap_d1_x1 : Apart d1 x1 := apart_new' x1O17 ho
  have ap_g0_d1 : Apart g0 d1 := apart_new g0O17 ho
  have ap_d1_g0 : Apart d1 g0 := apart_new' g0O17 ho
  have ap_y0_d1 : Apart y0 d1 := apart_new y0O17 ho
  have ap_d1_y0 : Apart d1 y0 := apart_new' y0O17 ho
  have ap_y1_d1 : Apart y1 d1 := apart_new y1O17 ho
  have ap_d1_y1 : Apart d1 y1 := apart_new' y1O17 ho
  have ap_d0_d1 : Apart d0 d1 := apart_new d0O17 ho
  have ap_d1_d0 : Apart d1 d0 := apart_new' d0O17 ho
  have d1O18 := ho.mono hb17.size
  have hb18 := hb17.trans (hs.mono hb17.size)
  have c0O18 := c0O17.below hs
  have c1O18 := c1O17.below hs
  have v0O18 := v0O17.below hs
  have x0O18 := x0O17.below hs
  have x1O18 := x1O17.below hs
  have g0O18 := g0O17.below hs
  have y0O18 := y0O17.below hs
  have y1O18 := y1O17.below hs
  have d0O18 := d0O17.below hs
  clear ho
  clear hb17 c0O17 c1O17 v0O17 x0O17 x1O17 g0O17 y0O17 y1O17 d0O17 hs
  go_wp2_with fail
  refine (MeetI _ _ _ _ _ d0O18.reads d1O18.reads).mono ?_
  rintro e w19 ⟨r0, rfl, ho, hs⟩
  have ap_c0_r0 : Apart c0 r0 := apart_new c0O18 ho
  have ap_r0_c0 : Apart r0 c0 := apart_new' c0O18 ho
  have ap_c1_r0 : Apart c1 r0 := apart_new c1O18 ho
  have ap_r0_c1 : Apart r0 c1 := apart_new' c1O18 ho
  have ap_v0_r0 : Apart v0 r0 := apart_new v0O18 ho
  have ap_r0_v0 : Apart r0 v0 := apart_new' v0O18 ho
  have ap_x0_r0 : Apart x0 r0 := apart_new x0O18 ho
  have ap_r0_x0 : Apart r0 x0 := apart_new' x0O18 ho
  have ap_x1_r0 : Apart x1 r0 := apart_new x1O18 ho
  have ap_r0_x1 : Apart r0 x1 := apart_new' x1O18 ho
  have ap_g0_r0 : Apart g0 r0 := apart_new g0O18 ho
  have ap_r0_g0 : Apart r0 g0 := apart_new' g0O18 ho
  have ap_y0_r0 : Apart y0 r0 := apart_new y0O18 ho
  have ap_r0_y0 : Apart r0 y0 := apart_new' y0O18 ho
  have ap_y1_r0 : Apart y1 r0 := apart_new y1O18 ho
  have ap_r0_y1 : Apart r0 y1 := apart_new' y1O18 ho
  have ap_d0_r0 : Apart d0 r0 := apart_new d0O18 ho
  have ap_r0_d0 : Apart r0 d0 := apart_new' d0O18 ho
  have ap_d1_r0 : Apart d1 r0 := apart_new d1O18 ho
  have ap_r0_d1 : Apart r0 d1 := apart_new' d1O18 ho
  have r0O19 := ho.mono hb18.size
  have hb19 := hb18.trans (hs.mono hb18.size)
  have c0O19 := c0O18.below hs
  have c1O19 := c1O18.below hs
  have v0O19 := v0O18.below hs
  have x0O19 := x0O18.below hs
  have x1O19 := x1O18.below hs
  have g0O19 := g0O18.below hs
  have y0O19 := y0O18.below hs
  have y1O19 := y1O18.below hs
  have d0O19 := d0O18.below hs
  have d1O19 := d1O18.below hs
  clear ho
  clear hb18 c0O18 c1O18 v0O18 x0O18 x1O18 g0O18 y0O18 y1O18 d0O18 d1O18 hs
  go_wp2_with fail
  refine (eqI _ _ _ _ _ r0O19.reads v0O19.reads).mono ?_
  rintro e w20 ⟨rfl, hs⟩
  have hb20 := hb19.trans (hs.mono hb19.size)
  have c0O20 := c0O19.below hs
  have c1O20 := c1O19.below hs
  have v0O20 := v0O19.below hs
  have x0O20 := x0O19.below hs
  have x1O20 := x1O19.below hs
  have g0O20 := g0O19.below hs
  have y0O20 := y0O19.below hs
  have y1O20 := y1O19.below hs
  have d0O20 := d0O19.below hs
  have d1O20 := d1O19.below hs
  have r0O20 := r0O19.below hs
  clear hb19 c0O19 c1O19 v0O19 x0O19 x1O19 g0O19 y0O19 y1O19 d0O19 d1O19 r0O19 hs
  rw [decide_eq_true rfl]
  go_wp2_with fail
  refine (heldI _ _ (1) _ g0O20.reads (by have := onlyIf_le (b := okP l0 && okP l1 && decide (l0.length = l1.length)) (l := meetF l0 l1) (n := 12) (fun h => by have := (okP_of (by simp at h; exact h.1.1)).1; rw [length_meetF]; simpa using this); omega) (by omega) (by omega)).mono ?_
  rintro e w21 ⟨rfl, hs⟩
  have hb21 := hb20.trans (hs.mono hb20.size)
  have c0O21 := c0O20.below hs
  have c1O21 := c1O20.below hs
  have v0O21 := v0O20.below hs
  have x0O21 := x0O20.below hs
  have x1O21 := x1O20.below hs
  have g0O21 := g0O20.below hs
  have y0O21 := y0O20.below hs
  have y1O21 := y1O20.below hs
  have d0O21 := d0O20.below hs
  have d1O21 := d1O20.below hs
  have r0O21 := r0O20.below hs
  clear hb20 c0O20 c1O20 v0O20 x0O20 x1O20 g0O20 y0O20 y1O20 d0O20 d1O20 r0O20 hs
  go_wp2_with fail
  go_ret
  exact ⟨rfl, hb21⟩


end Go.Proofs.Ytgibgcjpehcemaa
