/- Walk of the exact law on doubled braids. -/
import Derived.Test.YtoomkkeffejcdaaLb1
import Derived.Test.YtoomkkeffejcdaaOwi
import Derived.Test.YtoomkkeffejcdaaDbz
namespace Go.Proofs.Ytoomkkeffejcdaa
open Go.RowKit
theorem lD_len (n : Int) (l z : List Int) : (lD n l z).length ≤ 40 := by
  unfold lD
  split
  · rename_i h
    unfold codeD at h
    split at h
    · split at h
      · split at h
        · rename_i h2; exact h2.2
        · cases h
      · cases h
    · cases h
  · simp

set_option maxRecDepth 100000 in
set_option maxHeartbeats 8000000 in
theorem walk_FnExactDoubleBraid (n0 : Int) (a0 : Value) (l0 : List Int) (a1 : Value) (l1 : List Int) (W : World) (h0 : Reads W a0 (ints l0)) (h1 : Reads W a1 (ints l1)) :
    Calls Try.prog 12 #[.agg #[.int .i64 n0, a0], a1] W fun e w' => e = .returned (.bool true) ∧ Below W.heap.size W w' := by
  have hs0 := h0.small
  simp only [length_ints] at hs0
  have hs1 := h1.small
  simp only [length_ints] at hs1
  have hlen1 := h1.len (P := Try.prog) 22 3 ⟨_, sliceI⟩
  simp only [length_ints] at hlen1
  by_cases hI1 : l1.length ≤ 1048576
  case neg =>
    have hgt1 : (1048576 : Int) < (l1.length : Int) := by omega
    go_enter Try.func12, Try.ntmps12
    have hb_0 : Below W.heap.size W W := Below.refl _ _
    have hb_1 := hb_0.alloc hb_0.size (.cells #[.int .i64 n0, a0] 24)
    have A0_1 := Bx.new W #[.int .i64 n0, a0] 24
    have hz_1 := World.size_alloc W (.cells #[.int .i64 n0, a0] 24)
    have A0c0 := A0_1.cell 0 rfl
    have A0c1 := A0_1.cell 1 rfl
    go_wp2_with fail
    go_ret
    exact ⟨rfl, hb_1⟩
  have hle1 : ¬ (1048576 : Int) < (l1.length : Int) := by omega
  by_cases hl0 : (1048576 : Int) - (l0.length : Int) < 0
  case pos =>
    have hz0 := szN_no hl0
    go_enter Try.func12, Try.ntmps12
    have hb_0 : Below W.heap.size W W := Below.refl _ _
    have hb_1 := hb_0.alloc hb_0.size (.cells #[.int .i64 n0, a0] 24)
    have A0_1 := Bx.new W #[.int .i64 n0, a0] 24
    have hz_1 := World.size_alloc W (.cells #[.int .i64 n0, a0] 24)
    have A0c0 := A0_1.cell 0 rfl
    have A0c1 := A0_1.cell 1 rfl
    go_wp2_with fail
    refine (szB _ _ _ (1048576) _ (h0.below hb_1) (by omega) (by omega)).mono ?_
    rintro e w1 ⟨rfl, hs⟩
    have hb_2 := hb_1.trans (hs.mono hb_1.size)
    have hz_2 := hs.size
    have A0_2 := A0_1.below hs
    clear hs A0_1 hb_1
    clear A0c0 A0c1
    have A0c0 := A0_2.cell 0 rfl
    have A0c1 := A0_2.cell 1 rfl
    rw [hz0]
    go_wp2_with fail
    go_ret
    exact ⟨rfl, hb_2⟩
  have hz0 := szN_yes hl0
  have hL : (lD n0 l0 l1).length ≤ 1048576 := by
    have := lD_len n0 l0 l1
    omega
  have hspec := hid (fun (v0 : Value) (v1 : Value) (w : World) (r0 : Reads w v0 (ints l0)) (r1 : Reads w v1 (ints l1)) => DoubleS n0 v0 l0 v1 l1 w r0 r1)
  have himpl := hid (fun (v0 : Value) (v1 : Value) (w : World) (r0 : Reads w v0 (ints l0)) (r1 : Reads w v1 (ints l1)) => DoubleI n0 v0 l0 v1 l1 w r0 r1)
  generalize lD n0 l0 l1 = L at *
  generalize nD n0 l0 l1 = N at *
  generalize codeD n0 l0 l1 = C at *
  have hcc : (C != C) = false := by simp
  go_enter Try.func12, Try.ntmps12
  have hb_0 : Below W.heap.size W W := Below.refl _ _
  have hb_1 := hb_0.alloc hb_0.size (.cells #[.int .i64 n0, a0] 24)
  have A0_1 := Bx.new W #[.int .i64 n0, a0] 24
  have hz_1 := World.size_alloc W (.cells #[.int .i64 n0, a0] 24)
  have A0c0 := A0_1.cell 0 rfl
  have A0c1 := A0_1.cell 1 rfl
  go_wp2_with fail
  refine (szB _ _ _ (1048576) _ (h0.below hb_1) (by omega) (by omega)).mono ?_
  rintro e w1 ⟨rfl, hs⟩
  have hb_2 := hb_1.trans (hs.mono hb_1.size)
  have hz_2 := hs.size
  have A0_2 := A0_1.below hs
  clear hs A0_1 hb_1
  clear A0c0 A0c1
  have A0c0 := A0_2.cell 0 rfl
  have A0c1 := A0_2.cell 1 rfl
  rw [hz0]
  go_wp2_with fail
  refine (toB _ _ _ _ (h0.below hb_2) (by omega)).mono ?_
  rintro e w2 ⟨c0v, rfl, ho, hs⟩
  have hb_3 := hb_2.trans (hs.mono hb_2.size)
  have hz_3 := hs.size
  have A0_3 := A0_2.below hs
  obtain ⟨c0va, c0vn, c0vc, rfl⟩ := (OwnI.of ho).form
  have c0v_3 := OwnI.of ho
  clear ho
  clear hs A0_2 hb_2
  clear A0c0 A0c1
  have A0c0 := A0_3.cell 0 rfl
  have A0c1 := A0_3.cell 1 rfl
  go_wp2_with fail
  refine (toI _ _ _ (h1.below hb_3) (by omega)).mono ?_
  rintro e w3 ⟨c1v, rfl, ho, hs⟩
  have hb_4 := hb_3.trans (hs.mono hb_3.size)
  have hz_4 := hs.size
  have A0_4 := A0_3.below hs
  have c0v_4 := c0v_3.below hs
  obtain ⟨c1va, c1vn, c1vc, rfl⟩ := (OwnI.of ho).form
  have c1v_4 := OwnI.of ho
  clear ho
  clear hs A0_3 c0v_3 hb_3
  clear A0c0 A0c1
  have A0c0 := A0_4.cell 0 rfl
  have A0c1 := A0_4.cell 1 rfl
  go_wp2_with fail
  refine (hspec.out _ _ _ c0v_4.reads c1v_4.reads).mono ?_
  rintro e w4 ⟨v, rfl, ho, hs⟩
  have hb_5 := hb_4.trans (hs.mono hb_4.size)
  have hz_5 := hs.size
  have A0_5 := A0_4.below hs
  have c0v_5 := c0v_4.below hs
  have c1v_5 := c1v_4.below hs
  obtain ⟨va, vn, vc, rfl⟩ := (OwnI.of ho).form
  have v_5 := OwnI.of ho
  clear ho
  clear hs A0_4 c0v_4 c1v_4 hb_4
  clear A0c0 A0c1
  have A0c0 := A0_5.cell 0 rfl
  have A0c1 := A0_5.cell 1 rfl
  have hb_6 := hb_5.alloc hb_5.size (.cells #[.int .i64 N, (.slice va vn vc)] 27)
  have A0_6 := A0_5.alloc (.cells #[.int .i64 N, (.slice va vn vc)] 27)
  have c0v_6 := c0v_5.alloc (.cells #[.int .i64 N, (.slice va vn vc)] 27)
  have c1v_6 := c1v_5.alloc (.cells #[.int .i64 N, (.slice va vn vc)] 27)
  have v_6 := v_5.alloc (.cells #[.int .i64 N, (.slice va vn vc)] 27)
  have Xv_6 := Bx.new w4 #[.int .i64 N, (.slice va vn vc)] 27
  have hz_6 := World.size_alloc w4 (.cells #[.int .i64 N, (.slice va vn vc)] 27)
  clear A0_5 c0v_5 c1v_5 v_5 hb_5
  clear A0c0 A0c1
  have A0c0 := A0_6.cell 0 rfl
  have A0c1 := A0_6.cell 1 rfl
  have Xvc0 := Xv_6.cell 0 rfl
  have Xvc1 := Xv_6.cell 1 rfl
  go_wp2_with fail
  refine (toB _ _ _ _ (h0.below hb_6) (by omega)).mono ?_
  rintro e w5 ⟨x0, rfl, ho, hs⟩
  have hb_7 := hb_6.trans (hs.mono hb_6.size)
  have hz_7 := hs.size
  have A0_7 := A0_6.below hs
  have c0v_7 := c0v_6.below hs
  have c1v_7 := c1v_6.below hs
  have v_7 := v_6.below hs
  have Xv_7 := Xv_6.below hs
  obtain ⟨x0a, x0n, x0c, rfl⟩ := (OwnI.of ho).form
  have x0_7 := OwnI.of ho
  clear ho
  clear hs A0_6 c0v_6 c1v_6 v_6 Xv_6 hb_6
  clear A0c0 A0c1 Xvc0 Xvc1
  have A0c0 := A0_7.cell 0 rfl
  have A0c1 := A0_7.cell 1 rfl
  have Xvc0 := Xv_7.cell 0 rfl
  have Xvc1 := Xv_7.cell 1 rfl
  have hb_8 := hb_7.alloc hb_7.size (.cells #[.int .i64 n0, (.slice x0a x0n x0c)] 27)
  have A0_8 := A0_7.alloc (.cells #[.int .i64 n0, (.slice x0a x0n x0c)] 27)
  have c0v_8 := c0v_7.alloc (.cells #[.int .i64 n0, (.slice x0a x0n x0c)] 27)
  have c1v_8 := c1v_7.alloc (.cells #[.int .i64 n0, (.slice x0a x0n x0c)] 27)
  have v_8 := v_7.alloc (.cells #[.int .i64 n0, (.slice x0a x0n x0c)] 27)
  have Xv_8 := Xv_7.alloc (.cells #[.int .i64 n0, (.slice x0a x0n x0c)] 27)
  have x0_8 := x0_7.alloc (.cells #[.int .i64 n0, (.slice x0a x0n x0c)] 27)
  have Xx0_8 := Bx.new w5 #[.int .i64 n0, (.slice x0a x0n x0c)] 27
  have hz_8 := World.size_alloc w5 (.cells #[.int .i64 n0, (.slice x0a x0n x0c)] 27)
  clear A0_7 c0v_7 c1v_7 v_7 Xv_7 x0_7 hb_7
  clear A0c0 A0c1 Xvc0 Xvc1
  have A0c0 := A0_8.cell 0 rfl
  have A0c1 := A0_8.cell 1 rfl
  have Xvc0 := Xv_8.cell 0 rfl
  have Xvc1 := Xv_8.cell 1 rfl
  have Xx0c0 := Xx0_8.cell 0 rfl
  have Xx0c1 := Xx0_8.cell 1 rfl
  go_wp2_with fail
  refine (toI _ _ _ (h1.below hb_8) (by omega)).mono ?_
  rintro e w6 ⟨x1, rfl, ho, hs⟩
  have hb_9 := hb_8.trans (hs.mono hb_8.size)
  have hz_9 := hs.size
  have A0_9 := A0_8.below hs
  have c0v_9 := c0v_8.below hs
  have c1v_9 := c1v_8.below hs
  have v_9 := v_8.below hs
  have Xv_9 := Xv_8.below hs
  have x0_9 := x0_8.below hs
  have Xx0_9 := Xx0_8.below hs
  obtain ⟨x1a, x1n, x1c, rfl⟩ := (OwnI.of ho).form
  have x1_9 := OwnI.of ho
  clear ho
  clear hs A0_8 c0v_8 c1v_8 v_8 Xv_8 x0_8 Xx0_8 hb_8
  clear A0c0 A0c1 Xvc0 Xvc1 Xx0c0 Xx0c1
  have A0c0 := A0_9.cell 0 rfl
  have A0c1 := A0_9.cell 1 rfl
  have Xvc0 := Xv_9.cell 0 rfl
  have Xvc1 := Xv_9.cell 1 rfl
  have Xx0c0 := Xx0_9.cell 0 rfl
  have Xx0c1 := Xx0_9.cell 1 rfl
  go_wp2_with fail
  refine (himpl.out _ _ _ x0_9.reads x1_9.reads).mono ?_
  rintro e w7 ⟨g, rfl, ho, hs⟩
  have hb_10 := hb_9.trans (hs.mono hb_9.size)
  have hz_10 := hs.size
  have A0_10 := A0_9.below hs
  have c0v_10 := c0v_9.below hs
  have c1v_10 := c1v_9.below hs
  have v_10 := v_9.below hs
  have Xv_10 := Xv_9.below hs
  have x0_10 := x0_9.below hs
  have Xx0_10 := Xx0_9.below hs
  have x1_10 := x1_9.below hs
  obtain ⟨ga, gn, gc, rfl⟩ := (OwnI.of ho).form
  have g_10 := OwnI.of ho
  clear ho
  clear hs A0_9 c0v_9 c1v_9 v_9 Xv_9 x0_9 Xx0_9 x1_9 hb_9
  clear A0c0 A0c1 Xvc0 Xvc1 Xx0c0 Xx0c1
  have A0c0 := A0_10.cell 0 rfl
  have A0c1 := A0_10.cell 1 rfl
  have Xvc0 := Xv_10.cell 0 rfl
  have Xvc1 := Xv_10.cell 1 rfl
  have Xx0c0 := Xx0_10.cell 0 rfl
  have Xx0c1 := Xx0_10.cell 1 rfl
  have hb_11 := hb_10.alloc hb_10.size (.cells #[.int .i64 N, (.slice ga gn gc)] 27)
  have A0_11 := A0_10.alloc (.cells #[.int .i64 N, (.slice ga gn gc)] 27)
  have c0v_11 := c0v_10.alloc (.cells #[.int .i64 N, (.slice ga gn gc)] 27)
  have c1v_11 := c1v_10.alloc (.cells #[.int .i64 N, (.slice ga gn gc)] 27)
  have v_11 := v_10.alloc (.cells #[.int .i64 N, (.slice ga gn gc)] 27)
  have Xv_11 := Xv_10.alloc (.cells #[.int .i64 N, (.slice ga gn gc)] 27)
  have x0_11 := x0_10.alloc (.cells #[.int .i64 N, (.slice ga gn gc)] 27)
  have Xx0_11 := Xx0_10.alloc (.cells #[.int .i64 N, (.slice ga gn gc)] 27)
  have x1_11 := x1_10.alloc (.cells #[.int .i64 N, (.slice ga gn gc)] 27)
  have g_11 := g_10.alloc (.cells #[.int .i64 N, (.slice ga gn gc)] 27)
  have Xg_11 := Bx.new w7 #[.int .i64 N, (.slice ga gn gc)] 27
  have hz_11 := World.size_alloc w7 (.cells #[.int .i64 N, (.slice ga gn gc)] 27)
  clear A0_10 c0v_10 c1v_10 v_10 Xv_10 x0_10 Xx0_10 x1_10 g_10 hb_10
  clear A0c0 A0c1 Xvc0 Xvc1 Xx0c0 Xx0c1
  have A0c0 := A0_11.cell 0 rfl
  have A0c1 := A0_11.cell 1 rfl
  have Xvc0 := Xv_11.cell 0 rfl
  have Xvc1 := Xv_11.cell 1 rfl
  have Xx0c0 := Xx0_11.cell 0 rfl
  have Xx0c1 := Xx0_11.cell 1 rfl
  have Xgc0 := Xg_11.cell 0 rfl
  have Xgc1 := Xg_11.cell 1 rfl
  go_wp2_with fail
  refine (eqB _ _ _ _ _ _ _ g_11.reads v_11.reads).mono ?_
  rintro e w8 ⟨rfl, hs⟩
  have hb_12 := hb_11.trans (hs.mono hb_11.size)
  have hz_12 := hs.size
  have A0_12 := A0_11.below hs
  have c0v_12 := c0v_11.below hs
  have c1v_12 := c1v_11.below hs
  have v_12 := v_11.below hs
  have Xv_12 := Xv_11.below hs
  have x0_12 := x0_11.below hs
  have Xx0_12 := Xx0_11.below hs
  have x1_12 := x1_11.below hs
  have g_12 := g_11.below hs
  have Xg_12 := Xg_11.below hs
  clear hs A0_11 c0v_11 c1v_11 v_11 Xv_11 x0_11 Xx0_11 x1_11 g_11 Xg_11 hb_11
  clear A0c0 A0c1 Xvc0 Xvc1 Xx0c0 Xx0c1 Xgc0 Xgc1
  have A0c0 := A0_12.cell 0 rfl
  have A0c1 := A0_12.cell 1 rfl
  have Xvc0 := Xv_12.cell 0 rfl
  have Xvc1 := Xv_12.cell 1 rfl
  have Xx0c0 := Xx0_12.cell 0 rfl
  have Xx0c1 := Xx0_12.cell 1 rfl
  have Xgc0 := Xg_12.cell 0 rfl
  have Xgc1 := Xg_12.cell 1 rfl
  rw [show (N == N && decide (L = L)) = true by simp]
  go_wp2_with fail
  have hO_A0 := hid (fun (w' : World) (hw : Below (w8).heap.size w8 w') => A0_12.below hw)
  have hO_c0v := hid (fun (w' : World) (hw : Below (w8).heap.size w8 w') => c0v_12.below hw)
  have hO_c1v := hid (fun (w' : World) (hw : Below (w8).heap.size w8 w') => c1v_12.below hw)
  have hO_v := hid (fun (w' : World) (hw : Below (w8).heap.size w8 w') => v_12.below hw)
  have hO_Xv := hid (fun (w' : World) (hw : Below (w8).heap.size w8 w') => Xv_12.below hw)
  have hO_x0 := hid (fun (w' : World) (hw : Below (w8).heap.size w8 w') => x0_12.below hw)
  have hO_Xx0 := hid (fun (w' : World) (hw : Below (w8).heap.size w8 w') => Xx0_12.below hw)
  have hO_x1 := hid (fun (w' : World) (hw : Below (w8).heap.size w8 w') => x1_12.below hw)
  have hO_g := hid (fun (w' : World) (hw : Below (w8).heap.size w8 w') => g_12.below hw)
  have hO_Xg := hid (fun (w' : World) (hw : Below (w8).heap.size w8 w') => Xg_12.below hw)
  have hA := hid (fun (w' : World) (hw : Below (w8).heap.size w8 w') => (⟨h0.below (hb_12.trans (hw.mono hb_12.size)), h1.below (hb_12.trans (hw.mono hb_12.size)), trivial⟩ : Reads w' a0 (ints l0) ∧ Reads w' a1 (ints l1) ∧ True))
  have hK := hid (fun (w' : World) (hw : Below (w8).heap.size w8 w') => (⟨(A0_12.below hw).cell 0 rfl, (A0_12.below hw).cell 1 rfl, (Xx0_12.below hw).cell 0 rfl, (Xx0_12.below hw).cell 1 rfl, trivial⟩ : w'.cell? ⟨W.heap.size, 0, none⟩ = some (.int .i64 n0) ∧ w'.cell? ⟨W.heap.size, 1, none⟩ = some (a0) ∧ w'.cell? ⟨w5.heap.size, 0, none⟩ = some (.int .i64 n0) ∧ w'.cell? ⟨w5.heap.size, 1, none⟩ = some ((.slice x0a x0n x0c)) ∧ True))
  clear A0_12 c0v_12 c1v_12 v_12 Xv_12 x0_12 Xx0_12 x1_12 g_12 Xg_12
  go_region_held3 (fun w' => Below (w8).heap.size w8 w' ∧ w'.cell? ⟨W.heap.size, 0, none⟩ = some (.int .i64 n0) ∧ w'.cell? ⟨W.heap.size, 1, none⟩ = some (a0) ∧ w'.cell? ⟨w5.heap.size, 0, none⟩ = some (.int .i64 n0) ∧ w'.cell? ⟨w5.heap.size, 1, none⟩ = some ((.slice x0a x0n x0c)) ∧ True) (first | exact ⟨(Below.refl _ _).drew, hK.out _ (Below.refl _ _).drew⟩ | exact ⟨hbT, hK.out _ hbT⟩ | exact ⟨hbS, hK.out _ hbS⟩) ((first | (go_at_call 16; refine (toB _ _ _ _ (hA.out _ (Below.refl _ _).drew).1 (by omega)).mono ?_; rintro e wy1 ⟨y1, rfl, hoy, hsy⟩; have hbS := (Below.refl (w8).heap.size w8).drew.trans (hsy.mono (by simp))) | (go_at_call 18; refine (eqB _ _ _ _ _ _ _ (hO_x0.out _ hbS).reads hoy.reads).mono ?_; rintro e wz1 ⟨rfl, hsz⟩; have hbT := hbS.trans (hsz.mono hbS.size); rw [show (n0 == n0 && decide (l0 = l0)) = true by simp])))
  have hb_13 := hb_12.trans (hbT.mono hb_12.size)
  have hz_13 := hbT.size
  have A0_13 := hO_A0.out _ hbT
  have c0v_13 := hO_c0v.out _ hbT
  have c1v_13 := hO_c1v.out _ hbT
  have v_13 := hO_v.out _ hbT
  have Xv_13 := hO_Xv.out _ hbT
  have x0_13 := hO_x0.out _ hbT
  have Xx0_13 := hO_Xx0.out _ hbT
  have x1_13 := hO_x1.out _ hbT
  have g_13 := hO_g.out _ hbT
  have Xg_13 := hO_Xg.out _ hbT
  clear hA hO_A0 hO_c0v hO_c1v hO_v hO_Xv hO_x0 hO_Xx0 hO_x1 hO_g hO_Xg hb_12
  clear A0c0 A0c1 Xvc0 Xvc1 Xx0c0 Xx0c1 Xgc0 Xgc1
  have A0c0 := A0_13.cell 0 rfl
  have A0c1 := A0_13.cell 1 rfl
  have Xvc0 := Xv_13.cell 0 rfl
  have Xvc1 := Xv_13.cell 1 rfl
  have Xx0c0 := Xx0_13.cell 0 rfl
  have Xx0c1 := Xx0_13.cell 1 rfl
  have Xgc0 := Xg_13.cell 0 rfl
  have Xgc1 := Xg_13.cell 1 rfl
  clear hbT hbS hsz hsy hoy hK
  go_wp2_with fail
  refine (toI _ _ _ (h1.below hb_13) (by omega)).mono ?_
  rintro e w9 ⟨y1, rfl, ho, hs⟩
  have hb_14 := hb_13.trans (hs.mono hb_13.size)
  have hz_14 := hs.size
  have A0_14 := A0_13.below hs
  have c0v_14 := c0v_13.below hs
  have c1v_14 := c1v_13.below hs
  have v_14 := v_13.below hs
  have Xv_14 := Xv_13.below hs
  have x0_14 := x0_13.below hs
  have Xx0_14 := Xx0_13.below hs
  have x1_14 := x1_13.below hs
  have g_14 := g_13.below hs
  have Xg_14 := Xg_13.below hs
  obtain ⟨y1a, y1n, y1c, rfl⟩ := (OwnI.of ho).form
  have y1_14 := OwnI.of ho
  clear ho
  clear hs A0_13 c0v_13 c1v_13 v_13 Xv_13 x0_13 Xx0_13 x1_13 g_13 Xg_13 hb_13
  clear A0c0 A0c1 Xvc0 Xvc1 Xx0c0 Xx0c1 Xgc0 Xgc1
  have A0c0 := A0_14.cell 0 rfl
  have A0c1 := A0_14.cell 1 rfl
  have Xvc0 := Xv_14.cell 0 rfl
  have Xvc1 := Xv_14.cell 1 rfl
  have Xx0c0 := Xx0_14.cell 0 rfl
  have Xx0c1 := Xx0_14.cell 1 rfl
  have Xgc0 := Xg_14.cell 0 rfl
  have Xgc1 := Xg_14.cell 1 rfl
  go_wp2_with fail
  refine (eqI _ _ _ _ _ x1_14.reads y1_14.reads).mono ?_
  rintro e w10 ⟨rfl, hs⟩
  have hb_15 := hb_14.trans (hs.mono hb_14.size)
  have hz_15 := hs.size
  have A0_15 := A0_14.below hs
  have c0v_15 := c0v_14.below hs
  have c1v_15 := c1v_14.below hs
  have v_15 := v_14.below hs
  have Xv_15 := Xv_14.below hs
  have x0_15 := x0_14.below hs
  have Xx0_15 := Xx0_14.below hs
  have x1_15 := x1_14.below hs
  have g_15 := g_14.below hs
  have Xg_15 := Xg_14.below hs
  have y1_15 := y1_14.below hs
  clear hs A0_14 c0v_14 c1v_14 v_14 Xv_14 x0_14 Xx0_14 x1_14 g_14 Xg_14 y1_14 hb_14
  clear A0c0 A0c1 Xvc0 Xvc1 Xx0c0 Xx0c1 Xgc0 Xgc1
  have A0c0 := A0_15.cell 0 rfl
  have A0c1 := A0_15.cell 1 rfl
  have Xvc0 := Xv_15.cell 0 rfl
  have Xvc1 := Xv_15.cell 1 rfl
  have Xx0c0 := Xx0_15.cell 0 rfl
  have Xx0c1 := Xx0_15.cell 1 rfl
  have Xgc0 := Xg_15.cell 0 rfl
  have Xgc1 := Xg_15.cell 1 rfl
  rw [show (decide (l1 = l1)) = true by simp]
  go_wp2_with fail
  refine (markB _ _ _ (1) _ x0_15.own (by omega) (by omega) (by omega)).mono ?_
  rintro e w11 ⟨rfl, ho, hg⟩
  have hs := GrI.of x0_15 hg
  have hb_16 := below_gri hb_15 hs (by have := hb_15.size; omega) hb_15.size
  have hz_16 := hs.size
  have A0_16 := A0_15.gri hs (by omega)
  have c0v_16 := c0v_15.gri hs (by omega)
  have c1v_16 := c1v_15.gri hs (by omega)
  have v_16 := v_15.gri hs (by omega)
  have Xv_16 := Xv_15.gri hs (by omega)
  have Xx0_16 := Xx0_15.gri hs (by omega)
  have x1_16 := x1_15.gri hs (by omega)
  have g_16 := g_15.gri hs (by omega)
  have Xg_16 := Xg_15.gri hs (by omega)
  have y1_16 := y1_15.gri hs (by omega)
  have x0_16 := x0_15.marked ho
  clear hs hg ho A0_15 c0v_15 c1v_15 v_15 Xv_15 Xx0_15 x1_15 g_15 Xg_15 y1_15 x0_15 hb_15
  clear A0c0 A0c1 Xvc0 Xvc1 Xx0c0 Xx0c1 Xgc0 Xgc1
  have A0c0 := A0_16.cell 0 rfl
  have A0c1 := A0_16.cell 1 rfl
  have Xvc0 := Xv_16.cell 0 rfl
  have Xvc1 := Xv_16.cell 1 rfl
  have Xx0c0 := Xx0_16.cell 0 rfl
  have Xx0c1 := Xx0_16.cell 1 rfl
  have Xgc0 := Xg_16.cell 0 rfl
  have Xgc1 := Xg_16.cell 1 rfl
  go_wp2_with fail
  refine (markI _ _ (1 + (l0.length : Int)) _ x1_16.own (by omega) (by omega) (by omega)).mono ?_
  rintro e w12 ⟨rfl, ho, hg⟩
  have hs := GrI.of x1_16 hg
  have hb_17 := below_gri hb_16 hs (by have := hb_16.size; omega) hb_16.size
  have hz_17 := hs.size
  have A0_17 := A0_16.gri hs (by omega)
  have c0v_17 := c0v_16.gri hs (by omega)
  have c1v_17 := c1v_16.gri hs (by omega)
  have v_17 := v_16.gri hs (by omega)
  have Xv_17 := Xv_16.gri hs (by omega)
  have x0_17 := x0_16.gri hs (by omega)
  have Xx0_17 := Xx0_16.gri hs (by omega)
  have g_17 := g_16.gri hs (by omega)
  have Xg_17 := Xg_16.gri hs (by omega)
  have y1_17 := y1_16.gri hs (by omega)
  have x1_17 := x1_16.marked ho
  clear hs hg ho A0_16 c0v_16 c1v_16 v_16 Xv_16 x0_16 Xx0_16 g_16 Xg_16 y1_16 x1_16 hb_16
  clear A0c0 A0c1 Xvc0 Xvc1 Xx0c0 Xx0c1 Xgc0 Xgc1
  have A0c0 := A0_17.cell 0 rfl
  have A0c1 := A0_17.cell 1 rfl
  have Xvc0 := Xv_17.cell 0 rfl
  have Xvc1 := Xv_17.cell 1 rfl
  have Xx0c0 := Xx0_17.cell 0 rfl
  have Xx0c1 := Xx0_17.cell 1 rfl
  have Xgc0 := Xg_17.cell 0 rfl
  have Xgc1 := Xg_17.cell 1 rfl
  go_wp2_with fail
  refine (eqB _ _ _ _ _ _ _ g_17.reads v_17.reads).mono ?_
  rintro e w13 ⟨rfl, hs⟩
  have hb_18 := hb_17.trans (hs.mono hb_17.size)
  have hz_18 := hs.size
  have A0_18 := A0_17.below hs
  have c0v_18 := c0v_17.below hs
  have c1v_18 := c1v_17.below hs
  have v_18 := v_17.below hs
  have Xv_18 := Xv_17.below hs
  have x0_18 := x0_17.below hs
  have Xx0_18 := Xx0_17.below hs
  have x1_18 := x1_17.below hs
  have g_18 := g_17.below hs
  have Xg_18 := Xg_17.below hs
  have y1_18 := y1_17.below hs
  clear hs A0_17 c0v_17 c1v_17 v_17 Xv_17 x0_17 Xx0_17 x1_17 g_17 Xg_17 y1_17 hb_17
  clear A0c0 A0c1 Xvc0 Xvc1 Xx0c0 Xx0c1 Xgc0 Xgc1
  have A0c0 := A0_18.cell 0 rfl
  have A0c1 := A0_18.cell 1 rfl
  have Xvc0 := Xv_18.cell 0 rfl
  have Xvc1 := Xv_18.cell 1 rfl
  have Xx0c0 := Xx0_18.cell 0 rfl
  have Xx0c1 := Xx0_18.cell 1 rfl
  have Xgc0 := Xg_18.cell 0 rfl
  have Xgc1 := Xg_18.cell 1 rfl
  rw [show (N == N && decide (L = L)) = true by simp]
  go_wp2_with fail
  refine (markB _ _ _ (1) _ g_18.own (by omega) (by omega) (by omega)).mono ?_
  rintro e w14 ⟨rfl, ho, hg⟩
  have hs := GrI.of g_18 hg
  have hb_19 := below_gri hb_18 hs (by have := hb_18.size; omega) hb_18.size
  have hz_19 := hs.size
  have A0_19 := A0_18.gri hs (by omega)
  have c0v_19 := c0v_18.gri hs (by omega)
  have c1v_19 := c1v_18.gri hs (by omega)
  have v_19 := v_18.gri hs (by omega)
  have Xv_19 := Xv_18.gri hs (by omega)
  have x0_19 := x0_18.gri hs (by omega)
  have Xx0_19 := Xx0_18.gri hs (by omega)
  have x1_19 := x1_18.gri hs (by omega)
  have Xg_19 := Xg_18.gri hs (by omega)
  have y1_19 := y1_18.gri hs (by omega)
  have g_19 := g_18.marked ho
  clear hs hg ho A0_18 c0v_18 c1v_18 v_18 Xv_18 x0_18 Xx0_18 x1_18 Xg_18 y1_18 g_18 hb_18
  clear A0c0 A0c1 Xvc0 Xvc1 Xx0c0 Xx0c1 Xgc0 Xgc1
  have A0c0 := A0_19.cell 0 rfl
  have A0c1 := A0_19.cell 1 rfl
  have Xvc0 := Xv_19.cell 0 rfl
  have Xvc1 := Xv_19.cell 1 rfl
  have Xx0c0 := Xx0_19.cell 0 rfl
  have Xx0c1 := Xx0_19.cell 1 rfl
  have Xgc0 := Xg_19.cell 0 rfl
  have Xgc1 := Xg_19.cell 1 rfl
  go_wp2_with fail
  refine (heldB _ _ L.length 1 _ g_19.reads (by omega) (by omega) (by omega)).mono ?_
  rintro e w15 ⟨rfl, hs⟩
  have hb_20 := hb_19.trans (hs.mono hb_19.size)
  have hz_20 := hs.size
  have A0_20 := A0_19.below hs
  have c0v_20 := c0v_19.below hs
  have c1v_20 := c1v_19.below hs
  have v_20 := v_19.below hs
  have Xv_20 := Xv_19.below hs
  have x0_20 := x0_19.below hs
  have Xx0_20 := Xx0_19.below hs
  have x1_20 := x1_19.below hs
  have g_20 := g_19.below hs
  have Xg_20 := Xg_19.below hs
  have y1_20 := y1_19.below hs
  clear hs A0_19 c0v_19 c1v_19 v_19 Xv_19 x0_19 Xx0_19 x1_19 g_19 Xg_19 y1_19 hb_19
  clear A0c0 A0c1 Xvc0 Xvc1 Xx0c0 Xx0c1 Xgc0 Xgc1
  have A0c0 := A0_20.cell 0 rfl
  have A0c1 := A0_20.cell 1 rfl
  have Xvc0 := Xv_20.cell 0 rfl
  have Xvc1 := Xv_20.cell 1 rfl
  have Xx0c0 := Xx0_20.cell 0 rfl
  have Xx0c1 := Xx0_20.cell 1 rfl
  have Xgc0 := Xg_20.cell 0 rfl
  have Xgc1 := Xg_20.cell 1 rfl
  go_wp2_with fail
  refine (toB _ _ _ _ (h0.below hb_20) (by omega)).mono ?_
  rintro e w16 ⟨c0h, rfl, ho, hs⟩
  have hb_21 := hb_20.trans (hs.mono hb_20.size)
  have hz_21 := hs.size
  have A0_21 := A0_20.below hs
  have c0v_21 := c0v_20.below hs
  have c1v_21 := c1v_20.below hs
  have v_21 := v_20.below hs
  have Xv_21 := Xv_20.below hs
  have x0_21 := x0_20.below hs
  have Xx0_21 := Xx0_20.below hs
  have x1_21 := x1_20.below hs
  have g_21 := g_20.below hs
  have Xg_21 := Xg_20.below hs
  have y1_21 := y1_20.below hs
  obtain ⟨c0ha, c0hn, c0hc, rfl⟩ := (OwnI.of ho).form
  have c0h_21 := OwnI.of ho
  clear ho
  clear hs A0_20 c0v_20 c1v_20 v_20 Xv_20 x0_20 Xx0_20 x1_20 g_20 Xg_20 y1_20 hb_20
  clear A0c0 A0c1 Xvc0 Xvc1 Xx0c0 Xx0c1 Xgc0 Xgc1
  have A0c0 := A0_21.cell 0 rfl
  have A0c1 := A0_21.cell 1 rfl
  have Xvc0 := Xv_21.cell 0 rfl
  have Xvc1 := Xv_21.cell 1 rfl
  have Xx0c0 := Xx0_21.cell 0 rfl
  have Xx0c1 := Xx0_21.cell 1 rfl
  have Xgc0 := Xg_21.cell 0 rfl
  have Xgc1 := Xg_21.cell 1 rfl
  go_wp2_with fail
  refine (toI _ _ _ (h1.below hb_21) (by omega)).mono ?_
  rintro e w17 ⟨c1h, rfl, ho, hs⟩
  have hb_22 := hb_21.trans (hs.mono hb_21.size)
  have hz_22 := hs.size
  have A0_22 := A0_21.below hs
  have c0v_22 := c0v_21.below hs
  have c1v_22 := c1v_21.below hs
  have v_22 := v_21.below hs
  have Xv_22 := Xv_21.below hs
  have x0_22 := x0_21.below hs
  have Xx0_22 := Xx0_21.below hs
  have x1_22 := x1_21.below hs
  have g_22 := g_21.below hs
  have Xg_22 := Xg_21.below hs
  have y1_22 := y1_21.below hs
  have c0h_22 := c0h_21.below hs
  obtain ⟨c1ha, c1hn, c1hc, rfl⟩ := (OwnI.of ho).form
  have c1h_22 := OwnI.of ho
  clear ho
  clear hs A0_21 c0v_21 c1v_21 v_21 Xv_21 x0_21 Xx0_21 x1_21 g_21 Xg_21 y1_21 c0h_21 hb_21
  clear A0c0 A0c1 Xvc0 Xvc1 Xx0c0 Xx0c1 Xgc0 Xgc1
  have A0c0 := A0_22.cell 0 rfl
  have A0c1 := A0_22.cell 1 rfl
  have Xvc0 := Xv_22.cell 0 rfl
  have Xvc1 := Xv_22.cell 1 rfl
  have Xx0c0 := Xx0_22.cell 0 rfl
  have Xx0c1 := Xx0_22.cell 1 rfl
  have Xgc0 := Xg_22.cell 0 rfl
  have Xgc1 := Xg_22.cell 1 rfl
  go_wp2_with fail
  refine (himpl.out _ _ _ c0h_22.reads c1h_22.reads).mono ?_
  rintro e w18 ⟨h, rfl, ho, hs⟩
  have hb_23 := hb_22.trans (hs.mono hb_22.size)
  have hz_23 := hs.size
  have A0_23 := A0_22.below hs
  have c0v_23 := c0v_22.below hs
  have c1v_23 := c1v_22.below hs
  have v_23 := v_22.below hs
  have Xv_23 := Xv_22.below hs
  have x0_23 := x0_22.below hs
  have Xx0_23 := Xx0_22.below hs
  have x1_23 := x1_22.below hs
  have g_23 := g_22.below hs
  have Xg_23 := Xg_22.below hs
  have y1_23 := y1_22.below hs
  have c0h_23 := c0h_22.below hs
  have c1h_23 := c1h_22.below hs
  obtain ⟨ha, hn, hc, rfl⟩ := (OwnI.of ho).form
  have h_23 := OwnI.of ho
  clear ho
  clear hs A0_22 c0v_22 c1v_22 v_22 Xv_22 x0_22 Xx0_22 x1_22 g_22 Xg_22 y1_22 c0h_22 c1h_22 hb_22
  clear A0c0 A0c1 Xvc0 Xvc1 Xx0c0 Xx0c1 Xgc0 Xgc1
  have A0c0 := A0_23.cell 0 rfl
  have A0c1 := A0_23.cell 1 rfl
  have Xvc0 := Xv_23.cell 0 rfl
  have Xvc1 := Xv_23.cell 1 rfl
  have Xx0c0 := Xx0_23.cell 0 rfl
  have Xx0c1 := Xx0_23.cell 1 rfl
  have Xgc0 := Xg_23.cell 0 rfl
  have Xgc1 := Xg_23.cell 1 rfl
  have hb_24 := hb_23.alloc hb_23.size (.cells #[.int .i64 N, (.slice ha hn hc)] 27)
  have A0_24 := A0_23.alloc (.cells #[.int .i64 N, (.slice ha hn hc)] 27)
  have c0v_24 := c0v_23.alloc (.cells #[.int .i64 N, (.slice ha hn hc)] 27)
  have c1v_24 := c1v_23.alloc (.cells #[.int .i64 N, (.slice ha hn hc)] 27)
  have v_24 := v_23.alloc (.cells #[.int .i64 N, (.slice ha hn hc)] 27)
  have Xv_24 := Xv_23.alloc (.cells #[.int .i64 N, (.slice ha hn hc)] 27)
  have x0_24 := x0_23.alloc (.cells #[.int .i64 N, (.slice ha hn hc)] 27)
  have Xx0_24 := Xx0_23.alloc (.cells #[.int .i64 N, (.slice ha hn hc)] 27)
  have x1_24 := x1_23.alloc (.cells #[.int .i64 N, (.slice ha hn hc)] 27)
  have g_24 := g_23.alloc (.cells #[.int .i64 N, (.slice ha hn hc)] 27)
  have Xg_24 := Xg_23.alloc (.cells #[.int .i64 N, (.slice ha hn hc)] 27)
  have y1_24 := y1_23.alloc (.cells #[.int .i64 N, (.slice ha hn hc)] 27)
  have c0h_24 := c0h_23.alloc (.cells #[.int .i64 N, (.slice ha hn hc)] 27)
  have c1h_24 := c1h_23.alloc (.cells #[.int .i64 N, (.slice ha hn hc)] 27)
  have h_24 := h_23.alloc (.cells #[.int .i64 N, (.slice ha hn hc)] 27)
  have Xh_24 := Bx.new w18 #[.int .i64 N, (.slice ha hn hc)] 27
  have hz_24 := World.size_alloc w18 (.cells #[.int .i64 N, (.slice ha hn hc)] 27)
  clear A0_23 c0v_23 c1v_23 v_23 Xv_23 x0_23 Xx0_23 x1_23 g_23 Xg_23 y1_23 c0h_23 c1h_23 h_23 hb_23
  clear A0c0 A0c1 Xvc0 Xvc1 Xx0c0 Xx0c1 Xgc0 Xgc1
  have A0c0 := A0_24.cell 0 rfl
  have A0c1 := A0_24.cell 1 rfl
  have Xvc0 := Xv_24.cell 0 rfl
  have Xvc1 := Xv_24.cell 1 rfl
  have Xx0c0 := Xx0_24.cell 0 rfl
  have Xx0c1 := Xx0_24.cell 1 rfl
  have Xgc0 := Xg_24.cell 0 rfl
  have Xgc1 := Xg_24.cell 1 rfl
  have Xhc0 := Xh_24.cell 0 rfl
  have Xhc1 := Xh_24.cell 1 rfl
  go_wp2_with fail
  refine (eqB _ _ _ _ _ _ _ h_24.reads v_24.reads).mono ?_
  rintro e w19 ⟨rfl, hs⟩
  have hb_25 := hb_24.trans (hs.mono hb_24.size)
  have hz_25 := hs.size
  have A0_25 := A0_24.below hs
  have c0v_25 := c0v_24.below hs
  have c1v_25 := c1v_24.below hs
  have v_25 := v_24.below hs
  have Xv_25 := Xv_24.below hs
  have x0_25 := x0_24.below hs
  have Xx0_25 := Xx0_24.below hs
  have x1_25 := x1_24.below hs
  have g_25 := g_24.below hs
  have Xg_25 := Xg_24.below hs
  have y1_25 := y1_24.below hs
  have c0h_25 := c0h_24.below hs
  have c1h_25 := c1h_24.below hs
  have h_25 := h_24.below hs
  have Xh_25 := Xh_24.below hs
  clear hs A0_24 c0v_24 c1v_24 v_24 Xv_24 x0_24 Xx0_24 x1_24 g_24 Xg_24 y1_24 c0h_24 c1h_24 h_24 Xh_24 hb_24
  clear A0c0 A0c1 Xvc0 Xvc1 Xx0c0 Xx0c1 Xgc0 Xgc1 Xhc0 Xhc1
  have A0c0 := A0_25.cell 0 rfl
  have A0c1 := A0_25.cell 1 rfl
  have Xvc0 := Xv_25.cell 0 rfl
  have Xvc1 := Xv_25.cell 1 rfl
  have Xx0c0 := Xx0_25.cell 0 rfl
  have Xx0c1 := Xx0_25.cell 1 rfl
  have Xgc0 := Xg_25.cell 0 rfl
  have Xgc1 := Xg_25.cell 1 rfl
  have Xhc0 := Xh_25.cell 0 rfl
  have Xhc1 := Xh_25.cell 1 rfl
  rw [show (N == N && decide (L = L)) = true by simp]
  go_wp2_with fail
  refine (heldB _ _ L.length 1 _ g_25.reads (by omega) (by omega) (by omega)).mono ?_
  rintro e w20 ⟨rfl, hs⟩
  have hb_26 := hb_25.trans (hs.mono hb_25.size)
  have hz_26 := hs.size
  have A0_26 := A0_25.below hs
  have c0v_26 := c0v_25.below hs
  have c1v_26 := c1v_25.below hs
  have v_26 := v_25.below hs
  have Xv_26 := Xv_25.below hs
  have x0_26 := x0_25.below hs
  have Xx0_26 := Xx0_25.below hs
  have x1_26 := x1_25.below hs
  have g_26 := g_25.below hs
  have Xg_26 := Xg_25.below hs
  have y1_26 := y1_25.below hs
  have c0h_26 := c0h_25.below hs
  have c1h_26 := c1h_25.below hs
  have h_26 := h_25.below hs
  have Xh_26 := Xh_25.below hs
  clear hs A0_25 c0v_25 c1v_25 v_25 Xv_25 x0_25 Xx0_25 x1_25 g_25 Xg_25 y1_25 c0h_25 c1h_25 h_25 Xh_25 hb_25
  clear A0c0 A0c1 Xvc0 Xvc1 Xx0c0 Xx0c1 Xgc0 Xgc1 Xhc0 Xhc1
  have A0c0 := A0_26.cell 0 rfl
  have A0c1 := A0_26.cell 1 rfl
  have Xvc0 := Xv_26.cell 0 rfl
  have Xvc1 := Xv_26.cell 1 rfl
  have Xx0c0 := Xx0_26.cell 0 rfl
  have Xx0c1 := Xx0_26.cell 1 rfl
  have Xgc0 := Xg_26.cell 0 rfl
  have Xgc1 := Xg_26.cell 1 rfl
  have Xhc0 := Xh_26.cell 0 rfl
  have Xhc1 := Xh_26.cell 1 rfl
  go_wp2_with fail
  go_ret
  exact ⟨rfl, hb_26⟩


end Go.Proofs.Ytoomkkeffejcdaa
