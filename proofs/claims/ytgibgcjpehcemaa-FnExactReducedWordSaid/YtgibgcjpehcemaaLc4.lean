/- Walks of the exact laws on reduced words, left-weighted pairs and braids of permutations. -/
import Derived.Test.YtgibgcjpehcemaaLb1
import Derived.Test.YtgibgcjpehcemaaOwi
import Derived.Test.YtgibgcjpehcemaaRwc
namespace Go.Proofs.Ytgibgcjpehcemaa
open Go.RowKit

set_option maxRecDepth 100000 in
set_option maxHeartbeats 8000000 in
theorem walk_FnExactReducedWord (a0 : Value) (l0 : List Int) (W : World) (h0 : Reads W a0 (ints l0)) :
    Calls Try.prog 3 #[a0] W fun e w' => e = .returned (.bool true) ∧ Below W.heap.size W w' := by
  have hs0 := h0.small
  simp only [length_ints] at hs0
  have hlen0 := h0.len (P := Try.prog) 22 3 ⟨_, sliceI⟩
  simp only [length_ints] at hlen0
  by_cases hI0 : l0.length ≤ 1048576
  case neg =>
    have hgt0 : (1048576 : Int) < (l0.length : Int) := by omega
    go_enter Try.func3, Try.ntmps3
    have hb_0 : Below W.heap.size W W := Below.refl _ _
    go_wp2_with fail
    go_ret
    exact ⟨rfl, hb_0⟩
  have hle0 : ¬ (1048576 : Int) < (l0.length : Int) := by omega
  have hL : (onlyIf (okP l0) (redF l0)).length ≤ 1048576 := by
    unfold onlyIf
    split
    · rename_i h; have := redF_len l0; have := invs_small (okP_of h).1; omega
    · simp
  have hspec := hid (fun (v0 : Value) (w : World) (r0 : Reads w v0 (ints l0)) => RedS v0 l0 w r0)
  have himpl := hid (fun (v0 : Value) (w : World) (r0 : Reads w v0 (ints l0)) => RedI v0 l0 w r0)
  generalize onlyIf (okP l0) (redF l0) = L at *
  go_enter Try.func3, Try.ntmps3
  have hb_0 : Below W.heap.size W W := Below.refl _ _
  go_wp2_with fail
  refine (toI _ _ _ (h0.below hb_0) (by omega)).mono ?_
  rintro e w1 ⟨cv, rfl, ho, hs⟩
  have hb_1 := hb_0.trans (hs.mono hb_0.size)
  have hz_1 := hs.size
  obtain ⟨cva, cvn, cvc, rfl⟩ := (OwnI.of ho).form
  have cv_1 := OwnI.of ho
  clear ho
  clear hs hb_0
  go_wp2_with fail
  refine (hspec.out _ _ cv_1.reads).mono ?_
  rintro e w2 ⟨v, rfl, ho, hs⟩
  have hb_2 := hb_1.trans (hs.mono hb_1.size)
  have hz_2 := hs.size
  have cv_2 := cv_1.below hs
  obtain ⟨va, vn, vc, rfl⟩ := (OwnI.of ho).form
  have v_2 := OwnI.of ho
  clear ho
  clear hs cv_1 hb_1
  go_wp2_with fail
  refine (toI _ _ _ (h0.below hb_2) (by omega)).mono ?_
  rintro e w3 ⟨x0, rfl, ho, hs⟩
  have hb_3 := hb_2.trans (hs.mono hb_2.size)
  have hz_3 := hs.size
  have cv_3 := cv_2.below hs
  have v_3 := v_2.below hs
  obtain ⟨x0a, x0n, x0c, rfl⟩ := (OwnI.of ho).form
  have x0_3 := OwnI.of ho
  clear ho
  clear hs cv_2 v_2 hb_2
  go_wp2_with fail
  refine (himpl.out _ _ x0_3.reads).mono ?_
  rintro e w4 ⟨g, rfl, ho, hs⟩
  have hb_4 := hb_3.trans (hs.mono hb_3.size)
  have hz_4 := hs.size
  have cv_4 := cv_3.below hs
  have v_4 := v_3.below hs
  have x0_4 := x0_3.below hs
  obtain ⟨ga, gn, gc, rfl⟩ := (OwnI.of ho).form
  have g_4 := OwnI.of ho
  clear ho
  clear hs cv_3 v_3 x0_3 hb_3
  go_wp2_with fail
  refine (eqI _ _ _ _ _ g_4.reads v_4.reads).mono ?_
  rintro e w5 ⟨rfl, hs⟩
  have hb_5 := hb_4.trans (hs.mono hb_4.size)
  have hz_5 := hs.size
  have cv_5 := cv_4.below hs
  have v_5 := v_4.below hs
  have x0_5 := x0_4.below hs
  have g_5 := g_4.below hs
  clear hs cv_4 v_4 x0_4 g_4 hb_4
  rw [show (decide (L = L)) = true by simp]
  go_wp2_with fail
  refine (toI _ _ _ (h0.below hb_5) (by omega)).mono ?_
  rintro e w6 ⟨y0, rfl, ho, hs⟩
  have hb_6 := hb_5.trans (hs.mono hb_5.size)
  have hz_6 := hs.size
  have cv_6 := cv_5.below hs
  have v_6 := v_5.below hs
  have x0_6 := x0_5.below hs
  have g_6 := g_5.below hs
  obtain ⟨y0a, y0n, y0c, rfl⟩ := (OwnI.of ho).form
  have y0_6 := OwnI.of ho
  clear ho
  clear hs cv_5 v_5 x0_5 g_5 hb_5
  go_wp2_with fail
  refine (eqI _ _ _ _ _ x0_6.reads y0_6.reads).mono ?_
  rintro e w7 ⟨rfl, hs⟩
  have hb_7 := hb_6.trans (hs.mono hb_6.size)
  have hz_7 := hs.size
  have cv_7 := cv_6.below hs
  have v_7 := v_6.below hs
  have x0_7 := x0_6.below hs
  have g_7 := g_6.below hs
  have y0_7 := y0_6.below hs
  clear hs cv_6 v_6 x0_6 g_6 y0_6 hb_6
  rw [show (decide (l0 = l0)) = true by simp]
  go_wp2_with fail
  refine (markI _ _ (1) _ x0_7.own (by omega) (by omega) (by omega)).mono ?_
  rintro e w8 ⟨rfl, ho, hg⟩
  have hs := GrI.of x0_7 hg
  have hb_8 := below_gri hb_7 hs (by have := hb_7.size; omega) hb_7.size
  have hz_8 := hs.size
  have cv_8 := cv_7.gri hs (by omega)
  have v_8 := v_7.gri hs (by omega)
  have g_8 := g_7.gri hs (by omega)
  have y0_8 := y0_7.gri hs (by omega)
  have x0_8 := x0_7.marked ho
  clear hs hg ho cv_7 v_7 g_7 y0_7 x0_7 hb_7
  go_wp2_with fail
  refine (eqI _ _ _ _ _ g_8.reads v_8.reads).mono ?_
  rintro e w9 ⟨rfl, hs⟩
  have hb_9 := hb_8.trans (hs.mono hb_8.size)
  have hz_9 := hs.size
  have cv_9 := cv_8.below hs
  have v_9 := v_8.below hs
  have x0_9 := x0_8.below hs
  have g_9 := g_8.below hs
  have y0_9 := y0_8.below hs
  clear hs cv_8 v_8 x0_8 g_8 y0_8 hb_8
  rw [show (decide (L = L)) = true by simp]
  go_wp2_with fail
  refine (markI _ _ (1) _ g_9.own (by omega) (by omega) (by omega)).mono ?_
  rintro e w10 ⟨rfl, ho, hg⟩
  have hs := GrI.of g_9 hg
  have hb_10 := below_gri hb_9 hs (by have := hb_9.size; omega) hb_9.size
  have hz_10 := hs.size
  have cv_10 := cv_9.gri hs (by omega)
  have v_10 := v_9.gri hs (by omega)
  have x0_10 := x0_9.gri hs (by omega)
  have y0_10 := y0_9.gri hs (by omega)
  have g_10 := g_9.marked ho
  clear hs hg ho cv_9 v_9 x0_9 y0_9 g_9 hb_9
  go_wp2_with fail
  refine (heldI _ L.length 1 _ g_10.reads (by omega) (by omega) (by omega)).mono ?_
  rintro e w11 ⟨rfl, hs⟩
  have hb_11 := hb_10.trans (hs.mono hb_10.size)
  have hz_11 := hs.size
  have cv_11 := cv_10.below hs
  have v_11 := v_10.below hs
  have x0_11 := x0_10.below hs
  have g_11 := g_10.below hs
  have y0_11 := y0_10.below hs
  clear hs cv_10 v_10 x0_10 g_10 y0_10 hb_10
  go_wp2_with fail
  refine (toI _ _ _ (h0.below hb_11) (by omega)).mono ?_
  rintro e w12 ⟨ch, rfl, ho, hs⟩
  have hb_12 := hb_11.trans (hs.mono hb_11.size)
  have hz_12 := hs.size
  have cv_12 := cv_11.below hs
  have v_12 := v_11.below hs
  have x0_12 := x0_11.below hs
  have g_12 := g_11.below hs
  have y0_12 := y0_11.below hs
  obtain ⟨cha, chn, chc, rfl⟩ := (OwnI.of ho).form
  have ch_12 := OwnI.of ho
  clear ho
  clear hs cv_11 v_11 x0_11 g_11 y0_11 hb_11
  go_wp2_with fail
  refine (himpl.out _ _ ch_12.reads).mono ?_
  rintro e w13 ⟨h, rfl, ho, hs⟩
  have hb_13 := hb_12.trans (hs.mono hb_12.size)
  have hz_13 := hs.size
  have cv_13 := cv_12.below hs
  have v_13 := v_12.below hs
  have x0_13 := x0_12.below hs
  have g_13 := g_12.below hs
  have y0_13 := y0_12.below hs
  have ch_13 := ch_12.below hs
  obtain ⟨ha, hn, hc, rfl⟩ := (OwnI.of ho).form
  have h_13 := OwnI.of ho
  clear ho
  clear hs cv_12 v_12 x0_12 g_12 y0_12 ch_12 hb_12
  go_wp2_with fail
  refine (eqI _ _ _ _ _ h_13.reads v_13.reads).mono ?_
  rintro e w14 ⟨rfl, hs⟩
  have hb_14 := hb_13.trans (hs.mono hb_13.size)
  have hz_14 := hs.size
  have cv_14 := cv_13.below hs
  have v_14 := v_13.below hs
  have x0_14 := x0_13.below hs
  have g_14 := g_13.below hs
  have y0_14 := y0_13.below hs
  have ch_14 := ch_13.below hs
  have h_14 := h_13.below hs
  clear hs cv_13 v_13 x0_13 g_13 y0_13 ch_13 h_13 hb_13
  rw [show (decide (L = L)) = true by simp]
  go_wp2_with fail
  refine (heldI _ L.length 1 _ g_14.reads (by omega) (by omega) (by omega)).mono ?_
  rintro e w15 ⟨rfl, hs⟩
  have hb_15 := hb_14.trans (hs.mono hb_14.size)
  have hz_15 := hs.size
  have cv_15 := cv_14.below hs
  have v_15 := v_14.below hs
  have x0_15 := x0_14.below hs
  have g_15 := g_14.below hs
  have y0_15 := y0_14.below hs
  have ch_15 := ch_14.below hs
  have h_15 := h_14.below hs
  clear hs cv_14 v_14 x0_14 g_14 y0_14 ch_14 h_14 hb_14
  go_wp2_with fail
  go_ret
  exact ⟨rfl, hb_15⟩

set_option maxRecDepth 100000 in
set_option maxHeartbeats 8000000 in
theorem walk_FnExactLeftWeighted (a0 : Value) (l0 : List Int) (a1 : Value) (l1 : List Int) (W : World) (h0 : Reads W a0 (ints l0)) (h1 : Reads W a1 (ints l1)) :
    Calls Try.prog 4 #[a0, a1] W fun e w' => e = .returned (.bool true) ∧ Below W.heap.size W w' := by
  have hs0 := h0.small
  simp only [length_ints] at hs0
  have hs1 := h1.small
  simp only [length_ints] at hs1
  have hlen0 := h0.len (P := Try.prog) 22 3 ⟨_, sliceI⟩
  simp only [length_ints] at hlen0
  have hlen1 := h1.len (P := Try.prog) 22 3 ⟨_, sliceI⟩
  simp only [length_ints] at hlen1
  by_cases hI0 : l0.length ≤ 1048576
  case neg =>
    have hgt0 : (1048576 : Int) < (l0.length : Int) := by omega
    go_enter Try.func4, Try.ntmps4
    have hb_0 : Below W.heap.size W W := Below.refl _ _
    go_wp2_with fail
    go_ret
    exact ⟨rfl, hb_0⟩
  have hle0 : ¬ (1048576 : Int) < (l0.length : Int) := by omega
  by_cases hI1 : l1.length ≤ 1048576
  case neg =>
    have hgt1 : (1048576 : Int) < (l1.length : Int) := by omega
    go_enter Try.func4, Try.ntmps4
    have hb_0 : Below W.heap.size W W := Below.refl _ _
    go_wp2_with fail
    go_ret
    exact ⟨rfl, hb_0⟩
  have hle1 : ¬ (1048576 : Int) < (l1.length : Int) := by omega
  have hspec := hid (fun (v0 : Value) (v1 : Value) (w : World) (r0 : Reads w v0 (ints l0)) (r1 : Reads w v1 (ints l1)) => lw_spec v0 v1 l0 l1 w r0 r1)
  have himpl := hid (fun (v0 : Value) (v1 : Value) (w : World) (r0 : Reads w v0 (ints l0)) (r1 : Reads w v1 (ints l1)) => lw_impl v0 v1 l0 l1 w r0 r1)
  generalize lwF l0 l1 = V at *
  have hvv : (V != V) = false := by simp
  go_enter Try.func4, Try.ntmps4
  have hb_0 : Below W.heap.size W W := Below.refl _ _
  go_wp2_with fail
  refine (toI _ _ _ (h0.below hb_0) (by omega)).mono ?_
  rintro e w1 ⟨c0v, rfl, ho, hs⟩
  have hb_1 := hb_0.trans (hs.mono hb_0.size)
  have hz_1 := hs.size
  obtain ⟨c0va, c0vn, c0vc, rfl⟩ := (OwnI.of ho).form
  have c0v_1 := OwnI.of ho
  clear ho
  clear hs hb_0
  go_wp2_with fail
  refine (toI _ _ _ (h1.below hb_1) (by omega)).mono ?_
  rintro e w2 ⟨c1v, rfl, ho, hs⟩
  have hb_2 := hb_1.trans (hs.mono hb_1.size)
  have hz_2 := hs.size
  have c0v_2 := c0v_1.below hs
  obtain ⟨c1va, c1vn, c1vc, rfl⟩ := (OwnI.of ho).form
  have c1v_2 := OwnI.of ho
  clear ho
  clear hs c0v_1 hb_1
  go_wp2_with fail
  refine (hspec.out _ _ _ c0v_2.reads c1v_2.reads).mono ?_
  rintro e w3 ⟨rfl, hs⟩
  have hb_3 := hb_2.trans (hs.mono hb_2.size)
  have hz_3 := hs.size
  have c0v_3 := c0v_2.below hs
  have c1v_3 := c1v_2.below hs
  clear hs c0v_2 c1v_2 hb_2
  go_wp2_with fail
  refine (toI _ _ _ (h0.below hb_3) (by omega)).mono ?_
  rintro e w4 ⟨x0, rfl, ho, hs⟩
  have hb_4 := hb_3.trans (hs.mono hb_3.size)
  have hz_4 := hs.size
  have c0v_4 := c0v_3.below hs
  have c1v_4 := c1v_3.below hs
  obtain ⟨x0a, x0n, x0c, rfl⟩ := (OwnI.of ho).form
  have x0_4 := OwnI.of ho
  clear ho
  clear hs c0v_3 c1v_3 hb_3
  go_wp2_with fail
  refine (toI _ _ _ (h1.below hb_4) (by omega)).mono ?_
  rintro e w5 ⟨x1, rfl, ho, hs⟩
  have hb_5 := hb_4.trans (hs.mono hb_4.size)
  have hz_5 := hs.size
  have c0v_5 := c0v_4.below hs
  have c1v_5 := c1v_4.below hs
  have x0_5 := x0_4.below hs
  obtain ⟨x1a, x1n, x1c, rfl⟩ := (OwnI.of ho).form
  have x1_5 := OwnI.of ho
  clear ho
  clear hs c0v_4 c1v_4 x0_4 hb_4
  go_wp2_with fail
  refine (himpl.out _ _ _ x0_5.reads x1_5.reads).mono ?_
  rintro e w6 ⟨rfl, hs⟩
  have hb_6 := hb_5.trans (hs.mono hb_5.size)
  have hz_6 := hs.size
  have c0v_6 := c0v_5.below hs
  have c1v_6 := c1v_5.below hs
  have x0_6 := x0_5.below hs
  have x1_6 := x1_5.below hs
  clear hs c0v_5 c1v_5 x0_5 x1_5 hb_5
  go_wp2_with fail
  refine (toI _ _ _ (h0.below hb_6) (by omega)).mono ?_
  rintro e w7 ⟨y0, rfl, ho, hs⟩
  have hb_7 := hb_6.trans (hs.mono hb_6.size)
  have hz_7 := hs.size
  have c0v_7 := c0v_6.below hs
  have c1v_7 := c1v_6.below hs
  have x0_7 := x0_6.below hs
  have x1_7 := x1_6.below hs
  obtain ⟨y0a, y0n, y0c, rfl⟩ := (OwnI.of ho).form
  have y0_7 := OwnI.of ho
  clear ho
  clear hs c0v_6 c1v_6 x0_6 x1_6 hb_6
  go_wp2_with fail
  refine (eqI _ _ _ _ _ x0_7.reads y0_7.reads).mono ?_
  rintro e w8 ⟨rfl, hs⟩
  have hb_8 := hb_7.trans (hs.mono hb_7.size)
  have hz_8 := hs.size
  have c0v_8 := c0v_7.below hs
  have c1v_8 := c1v_7.below hs
  have x0_8 := x0_7.below hs
  have x1_8 := x1_7.below hs
  have y0_8 := y0_7.below hs
  clear hs c0v_7 c1v_7 x0_7 x1_7 y0_7 hb_7
  rw [show (decide (l0 = l0)) = true by simp]
  go_wp2_with fail
  refine (toI _ _ _ (h1.below hb_8) (by omega)).mono ?_
  rintro e w9 ⟨y1, rfl, ho, hs⟩
  have hb_9 := hb_8.trans (hs.mono hb_8.size)
  have hz_9 := hs.size
  have c0v_9 := c0v_8.below hs
  have c1v_9 := c1v_8.below hs
  have x0_9 := x0_8.below hs
  have x1_9 := x1_8.below hs
  have y0_9 := y0_8.below hs
  obtain ⟨y1a, y1n, y1c, rfl⟩ := (OwnI.of ho).form
  have y1_9 := OwnI.of ho
  clear ho
  clear hs c0v_8 c1v_8 x0_8 x1_8 y0_8 hb_8
  go_wp2_with fail
  refine (eqI _ _ _ _ _ x1_9.reads y1_9.reads).mono ?_
  rintro e w10 ⟨rfl, hs⟩
  have hb_10 := hb_9.trans (hs.mono hb_9.size)
  have hz_10 := hs.size
  have c0v_10 := c0v_9.below hs
  have c1v_10 := c1v_9.below hs
  have x0_10 := x0_9.below hs
  have x1_10 := x1_9.below hs
  have y0_10 := y0_9.below hs
  have y1_10 := y1_9.below hs
  clear hs c0v_9 c1v_9 x0_9 x1_9 y0_9 y1_9 hb_9
  rw [show (decide (l1 = l1)) = true by simp]
  go_wp2_with fail
  go_ret
  exact ⟨rfl, hb_10⟩

set_option maxRecDepth 100000 in
set_option maxHeartbeats 8000000 in
theorem walk_FnExactPermutationBraid (a0 : Value) (l0 : List Int) (W : World) (h0 : Reads W a0 (ints l0)) :
    Calls Try.prog 10 #[a0] W fun e w' => e = .returned (.bool true) ∧ Below W.heap.size W w' := by
  have hs0 := h0.small
  simp only [length_ints] at hs0
  have hlen0 := h0.len (P := Try.prog) 22 3 ⟨_, sliceI⟩
  simp only [length_ints] at hlen0
  by_cases hI0 : l0.length ≤ 1048576
  case neg =>
    have hgt0 : (1048576 : Int) < (l0.length : Int) := by omega
    go_enter Try.func10, Try.ntmps10
    have hb_0 : Below W.heap.size W W := Below.refl _ _
    go_wp2_with fail
    go_ret
    exact ⟨rfl, hb_0⟩
  have hle0 : ¬ (1048576 : Int) < (l0.length : Int) := by omega
  have hL : (lPB l0).length ≤ 1048576 := by
    unfold lPB
    split
    · rename_i h; unfold codePB at h; split at h
      · split at h
        · omega
        · simp at h
      · simp at h
    · simp
  have hspec := hid (fun (v0 : Value) (w : World) (r0 : Reads w v0 (ints l0)) => pb_spec v0 l0 w r0)
  have himpl := hid (fun (v0 : Value) (w : World) (r0 : Reads w v0 (ints l0)) => pb_impl v0 l0 w r0)
  generalize lPB l0 = L at *
  generalize nPB l0 = N at *
  generalize codePB l0 = C at *
  have hcc : (C != C) = false := by simp
  go_enter Try.func10, Try.ntmps10
  have hb_0 : Below W.heap.size W W := Below.refl _ _
  go_wp2_with fail
  refine (toI _ _ _ (h0.below hb_0) (by omega)).mono ?_
  rintro e w1 ⟨cv, rfl, ho, hs⟩
  have hb_1 := hb_0.trans (hs.mono hb_0.size)
  have hz_1 := hs.size
  obtain ⟨cva, cvn, cvc, rfl⟩ := (OwnI.of ho).form
  have cv_1 := OwnI.of ho
  clear ho
  clear hs hb_0
  go_wp2_with fail
  refine (hspec.out _ _ cv_1.reads).mono ?_
  rintro e w2 ⟨v, rfl, ho, hs⟩
  have hb_2 := hb_1.trans (hs.mono hb_1.size)
  have hz_2 := hs.size
  have cv_2 := cv_1.below hs
  obtain ⟨va, vn, vc, rfl⟩ := (OwnI.of ho).form
  have v_2 := OwnI.of ho
  clear ho
  clear hs cv_1 hb_1
  have hb_3 := hb_2.alloc hb_2.size (.cells #[.int .i64 N, (.slice va vn vc)] 42)
  have cv_3 := cv_2.alloc (.cells #[.int .i64 N, (.slice va vn vc)] 42)
  have v_3 := v_2.alloc (.cells #[.int .i64 N, (.slice va vn vc)] 42)
  have Xv_3 := Bx.new w2 #[.int .i64 N, (.slice va vn vc)] 42
  have hz_3 := World.size_alloc w2 (.cells #[.int .i64 N, (.slice va vn vc)] 42)
  clear cv_2 v_2 hb_2
  have Xvc0 := Xv_3.cell 0 rfl
  have Xvc1 := Xv_3.cell 1 rfl
  go_wp2_with fail
  refine (toI _ _ _ (h0.below hb_3) (by omega)).mono ?_
  rintro e w3 ⟨x0, rfl, ho, hs⟩
  have hb_4 := hb_3.trans (hs.mono hb_3.size)
  have hz_4 := hs.size
  have cv_4 := cv_3.below hs
  have v_4 := v_3.below hs
  have Xv_4 := Xv_3.below hs
  obtain ⟨x0a, x0n, x0c, rfl⟩ := (OwnI.of ho).form
  have x0_4 := OwnI.of ho
  clear ho
  clear hs cv_3 v_3 Xv_3 hb_3
  clear Xvc0 Xvc1
  have Xvc0 := Xv_4.cell 0 rfl
  have Xvc1 := Xv_4.cell 1 rfl
  go_wp2_with fail
  refine (himpl.out _ _ x0_4.reads).mono ?_
  rintro e w4 ⟨g, rfl, ho, hs⟩
  have hb_5 := hb_4.trans (hs.mono hb_4.size)
  have hz_5 := hs.size
  have cv_5 := cv_4.below hs
  have v_5 := v_4.below hs
  have Xv_5 := Xv_4.below hs
  have x0_5 := x0_4.below hs
  obtain ⟨ga, gn, gc, rfl⟩ := (OwnI.of ho).form
  have g_5 := OwnI.of ho
  clear ho
  clear hs cv_4 v_4 Xv_4 x0_4 hb_4
  clear Xvc0 Xvc1
  have Xvc0 := Xv_5.cell 0 rfl
  have Xvc1 := Xv_5.cell 1 rfl
  have hb_6 := hb_5.alloc hb_5.size (.cells #[.int .i64 N, (.slice ga gn gc)] 42)
  have cv_6 := cv_5.alloc (.cells #[.int .i64 N, (.slice ga gn gc)] 42)
  have v_6 := v_5.alloc (.cells #[.int .i64 N, (.slice ga gn gc)] 42)
  have Xv_6 := Xv_5.alloc (.cells #[.int .i64 N, (.slice ga gn gc)] 42)
  have x0_6 := x0_5.alloc (.cells #[.int .i64 N, (.slice ga gn gc)] 42)
  have g_6 := g_5.alloc (.cells #[.int .i64 N, (.slice ga gn gc)] 42)
  have Xg_6 := Bx.new w4 #[.int .i64 N, (.slice ga gn gc)] 42
  have hz_6 := World.size_alloc w4 (.cells #[.int .i64 N, (.slice ga gn gc)] 42)
  clear cv_5 v_5 Xv_5 x0_5 g_5 hb_5
  clear Xvc0 Xvc1
  have Xvc0 := Xv_6.cell 0 rfl
  have Xvc1 := Xv_6.cell 1 rfl
  have Xgc0 := Xg_6.cell 0 rfl
  have Xgc1 := Xg_6.cell 1 rfl
  go_wp2_with fail
  refine (eqB _ _ _ _ _ _ _ g_6.reads v_6.reads).mono ?_
  rintro e w5 ⟨rfl, hs⟩
  have hb_7 := hb_6.trans (hs.mono hb_6.size)
  have hz_7 := hs.size
  have cv_7 := cv_6.below hs
  have v_7 := v_6.below hs
  have Xv_7 := Xv_6.below hs
  have x0_7 := x0_6.below hs
  have g_7 := g_6.below hs
  have Xg_7 := Xg_6.below hs
  clear hs cv_6 v_6 Xv_6 x0_6 g_6 Xg_6 hb_6
  clear Xvc0 Xvc1 Xgc0 Xgc1
  have Xvc0 := Xv_7.cell 0 rfl
  have Xvc1 := Xv_7.cell 1 rfl
  have Xgc0 := Xg_7.cell 0 rfl
  have Xgc1 := Xg_7.cell 1 rfl
  rw [show (N == N && decide (L = L)) = true by simp]
  go_wp2_with fail
  refine (toI _ _ _ (h0.below hb_7) (by omega)).mono ?_
  rintro e w6 ⟨y0, rfl, ho, hs⟩
  have hb_8 := hb_7.trans (hs.mono hb_7.size)
  have hz_8 := hs.size
  have cv_8 := cv_7.below hs
  have v_8 := v_7.below hs
  have Xv_8 := Xv_7.below hs
  have x0_8 := x0_7.below hs
  have g_8 := g_7.below hs
  have Xg_8 := Xg_7.below hs
  obtain ⟨y0a, y0n, y0c, rfl⟩ := (OwnI.of ho).form
  have y0_8 := OwnI.of ho
  clear ho
  clear hs cv_7 v_7 Xv_7 x0_7 g_7 Xg_7 hb_7
  clear Xvc0 Xvc1 Xgc0 Xgc1
  have Xvc0 := Xv_8.cell 0 rfl
  have Xvc1 := Xv_8.cell 1 rfl
  have Xgc0 := Xg_8.cell 0 rfl
  have Xgc1 := Xg_8.cell 1 rfl
  go_wp2_with fail
  refine (eqI _ _ _ _ _ x0_8.reads y0_8.reads).mono ?_
  rintro e w7 ⟨rfl, hs⟩
  have hb_9 := hb_8.trans (hs.mono hb_8.size)
  have hz_9 := hs.size
  have cv_9 := cv_8.below hs
  have v_9 := v_8.below hs
  have Xv_9 := Xv_8.below hs
  have x0_9 := x0_8.below hs
  have g_9 := g_8.below hs
  have Xg_9 := Xg_8.below hs
  have y0_9 := y0_8.below hs
  clear hs cv_8 v_8 Xv_8 x0_8 g_8 Xg_8 y0_8 hb_8
  clear Xvc0 Xvc1 Xgc0 Xgc1
  have Xvc0 := Xv_9.cell 0 rfl
  have Xvc1 := Xv_9.cell 1 rfl
  have Xgc0 := Xg_9.cell 0 rfl
  have Xgc1 := Xg_9.cell 1 rfl
  rw [show (decide (l0 = l0)) = true by simp]
  go_wp2_with fail
  refine (markI _ _ (1) _ x0_9.own (by omega) (by omega) (by omega)).mono ?_
  rintro e w8 ⟨rfl, ho, hg⟩
  have hs := GrI.of x0_9 hg
  have hb_10 := below_gri hb_9 hs (by have := hb_9.size; omega) hb_9.size
  have hz_10 := hs.size
  have cv_10 := cv_9.gri hs (by omega)
  have v_10 := v_9.gri hs (by omega)
  have Xv_10 := Xv_9.gri hs (by omega)
  have g_10 := g_9.gri hs (by omega)
  have Xg_10 := Xg_9.gri hs (by omega)
  have y0_10 := y0_9.gri hs (by omega)
  have x0_10 := x0_9.marked ho
  clear hs hg ho cv_9 v_9 Xv_9 g_9 Xg_9 y0_9 x0_9 hb_9
  clear Xvc0 Xvc1 Xgc0 Xgc1
  have Xvc0 := Xv_10.cell 0 rfl
  have Xvc1 := Xv_10.cell 1 rfl
  have Xgc0 := Xg_10.cell 0 rfl
  have Xgc1 := Xg_10.cell 1 rfl
  go_wp2_with fail
  refine (eqB _ _ _ _ _ _ _ g_10.reads v_10.reads).mono ?_
  rintro e w9 ⟨rfl, hs⟩
  have hb_11 := hb_10.trans (hs.mono hb_10.size)
  have hz_11 := hs.size
  have cv_11 := cv_10.below hs
  have v_11 := v_10.below hs
  have Xv_11 := Xv_10.below hs
  have x0_11 := x0_10.below hs
  have g_11 := g_10.below hs
  have Xg_11 := Xg_10.below hs
  have y0_11 := y0_10.below hs
  clear hs cv_10 v_10 Xv_10 x0_10 g_10 Xg_10 y0_10 hb_10
  clear Xvc0 Xvc1 Xgc0 Xgc1
  have Xvc0 := Xv_11.cell 0 rfl
  have Xvc1 := Xv_11.cell 1 rfl
  have Xgc0 := Xg_11.cell 0 rfl
  have Xgc1 := Xg_11.cell 1 rfl
  rw [show (N == N && decide (L = L)) = true by simp]
  go_wp2_with fail
  refine (markB _ _ _ (1) _ g_11.own (by omega) (by omega) (by omega)).mono ?_
  rintro e w10 ⟨rfl, ho, hg⟩
  have hs := GrI.of g_11 hg
  have hb_12 := below_gri hb_11 hs (by have := hb_11.size; omega) hb_11.size
  have hz_12 := hs.size
  have cv_12 := cv_11.gri hs (by omega)
  have v_12 := v_11.gri hs (by omega)
  have Xv_12 := Xv_11.gri hs (by omega)
  have x0_12 := x0_11.gri hs (by omega)
  have Xg_12 := Xg_11.gri hs (by omega)
  have y0_12 := y0_11.gri hs (by omega)
  have g_12 := g_11.marked ho
  clear hs hg ho cv_11 v_11 Xv_11 x0_11 Xg_11 y0_11 g_11 hb_11
  clear Xvc0 Xvc1 Xgc0 Xgc1
  have Xvc0 := Xv_12.cell 0 rfl
  have Xvc1 := Xv_12.cell 1 rfl
  have Xgc0 := Xg_12.cell 0 rfl
  have Xgc1 := Xg_12.cell 1 rfl
  go_wp2_with fail
  refine (heldB _ _ L.length 1 _ g_12.reads (by omega) (by omega) (by omega)).mono ?_
  rintro e w11 ⟨rfl, hs⟩
  have hb_13 := hb_12.trans (hs.mono hb_12.size)
  have hz_13 := hs.size
  have cv_13 := cv_12.below hs
  have v_13 := v_12.below hs
  have Xv_13 := Xv_12.below hs
  have x0_13 := x0_12.below hs
  have g_13 := g_12.below hs
  have Xg_13 := Xg_12.below hs
  have y0_13 := y0_12.below hs
  clear hs cv_12 v_12 Xv_12 x0_12 g_12 Xg_12 y0_12 hb_12
  clear Xvc0 Xvc1 Xgc0 Xgc1
  have Xvc0 := Xv_13.cell 0 rfl
  have Xvc1 := Xv_13.cell 1 rfl
  have Xgc0 := Xg_13.cell 0 rfl
  have Xgc1 := Xg_13.cell 1 rfl
  go_wp2_with fail
  refine (toI _ _ _ (h0.below hb_13) (by omega)).mono ?_
  rintro e w12 ⟨ch, rfl, ho, hs⟩
  have hb_14 := hb_13.trans (hs.mono hb_13.size)
  have hz_14 := hs.size
  have cv_14 := cv_13.below hs
  have v_14 := v_13.below hs
  have Xv_14 := Xv_13.below hs
  have x0_14 := x0_13.below hs
  have g_14 := g_13.below hs
  have Xg_14 := Xg_13.below hs
  have y0_14 := y0_13.below hs
  obtain ⟨cha, chn, chc, rfl⟩ := (OwnI.of ho).form
  have ch_14 := OwnI.of ho
  clear ho
  clear hs cv_13 v_13 Xv_13 x0_13 g_13 Xg_13 y0_13 hb_13
  clear Xvc0 Xvc1 Xgc0 Xgc1
  have Xvc0 := Xv_14.cell 0 rfl
  have Xvc1 := Xv_14.cell 1 rfl
  have Xgc0 := Xg_14.cell 0 rfl
  have Xgc1 := Xg_14.cell 1 rfl
  go_wp2_with fail
  refine (himpl.out _ _ ch_14.reads).mono ?_
  rintro e w13 ⟨h, rfl, ho, hs⟩
  have hb_15 := hb_14.trans (hs.mono hb_14.size)
  have hz_15 := hs.size
  have cv_15 := cv_14.below hs
  have v_15 := v_14.below hs
  have Xv_15 := Xv_14.below hs
  have x0_15 := x0_14.below hs
  have g_15 := g_14.below hs
  have Xg_15 := Xg_14.below hs
  have y0_15 := y0_14.below hs
  have ch_15 := ch_14.below hs
  obtain ⟨ha, hn, hc, rfl⟩ := (OwnI.of ho).form
  have h_15 := OwnI.of ho
  clear ho
  clear hs cv_14 v_14 Xv_14 x0_14 g_14 Xg_14 y0_14 ch_14 hb_14
  clear Xvc0 Xvc1 Xgc0 Xgc1
  have Xvc0 := Xv_15.cell 0 rfl
  have Xvc1 := Xv_15.cell 1 rfl
  have Xgc0 := Xg_15.cell 0 rfl
  have Xgc1 := Xg_15.cell 1 rfl
  have hb_16 := hb_15.alloc hb_15.size (.cells #[.int .i64 N, (.slice ha hn hc)] 42)
  have cv_16 := cv_15.alloc (.cells #[.int .i64 N, (.slice ha hn hc)] 42)
  have v_16 := v_15.alloc (.cells #[.int .i64 N, (.slice ha hn hc)] 42)
  have Xv_16 := Xv_15.alloc (.cells #[.int .i64 N, (.slice ha hn hc)] 42)
  have x0_16 := x0_15.alloc (.cells #[.int .i64 N, (.slice ha hn hc)] 42)
  have g_16 := g_15.alloc (.cells #[.int .i64 N, (.slice ha hn hc)] 42)
  have Xg_16 := Xg_15.alloc (.cells #[.int .i64 N, (.slice ha hn hc)] 42)
  have y0_16 := y0_15.alloc (.cells #[.int .i64 N, (.slice ha hn hc)] 42)
  have ch_16 := ch_15.alloc (.cells #[.int .i64 N, (.slice ha hn hc)] 42)
  have h_16 := h_15.alloc (.cells #[.int .i64 N, (.slice ha hn hc)] 42)
  have Xh_16 := Bx.new w13 #[.int .i64 N, (.slice ha hn hc)] 42
  have hz_16 := World.size_alloc w13 (.cells #[.int .i64 N, (.slice ha hn hc)] 42)
  clear cv_15 v_15 Xv_15 x0_15 g_15 Xg_15 y0_15 ch_15 h_15 hb_15
  clear Xvc0 Xvc1 Xgc0 Xgc1
  have Xvc0 := Xv_16.cell 0 rfl
  have Xvc1 := Xv_16.cell 1 rfl
  have Xgc0 := Xg_16.cell 0 rfl
  have Xgc1 := Xg_16.cell 1 rfl
  have Xhc0 := Xh_16.cell 0 rfl
  have Xhc1 := Xh_16.cell 1 rfl
  go_wp2_with fail
  refine (eqB _ _ _ _ _ _ _ h_16.reads v_16.reads).mono ?_
  rintro e w14 ⟨rfl, hs⟩
  have hb_17 := hb_16.trans (hs.mono hb_16.size)
  have hz_17 := hs.size
  have cv_17 := cv_16.below hs
  have v_17 := v_16.below hs
  have Xv_17 := Xv_16.below hs
  have x0_17 := x0_16.below hs
  have g_17 := g_16.below hs
  have Xg_17 := Xg_16.below hs
  have y0_17 := y0_16.below hs
  have ch_17 := ch_16.below hs
  have h_17 := h_16.below hs
  have Xh_17 := Xh_16.below hs
  clear hs cv_16 v_16 Xv_16 x0_16 g_16 Xg_16 y0_16 ch_16 h_16 Xh_16 hb_16
  clear Xvc0 Xvc1 Xgc0 Xgc1 Xhc0 Xhc1
  have Xvc0 := Xv_17.cell 0 rfl
  have Xvc1 := Xv_17.cell 1 rfl
  have Xgc0 := Xg_17.cell 0 rfl
  have Xgc1 := Xg_17.cell 1 rfl
  have Xhc0 := Xh_17.cell 0 rfl
  have Xhc1 := Xh_17.cell 1 rfl
  rw [show (N == N && decide (L = L)) = true by simp]
  go_wp2_with fail
  refine (heldB _ _ L.length 1 _ g_17.reads (by omega) (by omega) (by omega)).mono ?_
  rintro e w15 ⟨rfl, hs⟩
  have hb_18 := hb_17.trans (hs.mono hb_17.size)
  have hz_18 := hs.size
  have cv_18 := cv_17.below hs
  have v_18 := v_17.below hs
  have Xv_18 := Xv_17.below hs
  have x0_18 := x0_17.below hs
  have g_18 := g_17.below hs
  have Xg_18 := Xg_17.below hs
  have y0_18 := y0_17.below hs
  have ch_18 := ch_17.below hs
  have h_18 := h_17.below hs
  have Xh_18 := Xh_17.below hs
  clear hs cv_17 v_17 Xv_17 x0_17 g_17 Xg_17 y0_17 ch_17 h_17 Xh_17 hb_17
  clear Xvc0 Xvc1 Xgc0 Xgc1 Xhc0 Xhc1
  have Xvc0 := Xv_18.cell 0 rfl
  have Xvc1 := Xv_18.cell 1 rfl
  have Xgc0 := Xg_18.cell 0 rfl
  have Xgc1 := Xg_18.cell 1 rfl
  have Xhc0 := Xh_18.cell 0 rfl
  have Xhc1 := Xh_18.cell 1 rfl
  go_wp2_with fail
  go_ret
  exact ⟨rfl, hb_18⟩


end Go.Proofs.Ytgibgcjpehcemaa
