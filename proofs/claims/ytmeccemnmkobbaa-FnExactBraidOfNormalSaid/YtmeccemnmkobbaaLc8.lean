/- Walk of the exact law on the braid of a normal form. -/
import Derived.Test.YtmeccemnmkobbaaNob
import Derived.Test.YtmeccemnmkobbaaBrc
import Derived.Test.YtmeccemnmkobbaaLb1
import Derived.Test.YtmeccemnmkobbaaOwi
import Derived.Test.YtmeccemnmkobbaaRen
namespace Go.Proofs.Ytmeccemnmkobbaa
open Go.RowKit
theorem lBN_len (n p : Int) (ls : List (List Int)) : (lBN n p ls).length ≤ 40 := by
  unfold lBN
  split
  · rename_i h
    unfold codeBN at h
    split at h
    · split at h
      · assumption
      · omega
    · omega
  · simp

set_option maxRecDepth 100000 in
set_option maxHeartbeats 8000000 in
theorem walk_FnExactBraidOfNormal (n0 p0 : Int) (a0 : Value) (l0 : List (List Int)) (W : World) (h0 : ReadsII W a0 l0) :
    Calls Try.prog 7 #[.agg #[.int .i64 n0, .int .i64 p0, a0]] W fun e w' => e = .returned (.bool true) ∧ Below W.heap.size W w' := by
  have hs0 := h0.small
  have ht0 := tot_nonneg l0
  by_cases hl0 : (1048576 : Int) - (tot l0 + l0.length) < 0
  case pos =>
    have hz0 := szNN_no hl0
    go_enter Try.func7, Try.ntmps7
    have hb_0 : Below W.heap.size W W := Below.refl _ _
    have hb_1 := hb_0.alloc hb_0.size (.cells #[.int .i64 n0, .int .i64 p0, a0] 24)
    have A0_1 := Bx.new W #[.int .i64 n0, .int .i64 p0, a0] 24
    have hz_1 := World.size_alloc W (.cells #[.int .i64 n0, .int .i64 p0, a0] 24)
    have A0c0 := A0_1.cell 0 rfl
    have A0c1 := A0_1.cell 1 rfl
    have A0c2 := A0_1.cell 2 rfl
    go_wp2_with fail
    refine (szN' _ _ _ _ (1048576) _ (h0.below hb_1) (by omega) (by omega)).mono ?_
    rintro e w1 ⟨rfl, hs⟩
    have hb_2 := hb_1.trans (hs.mono hb_1.size)
    have hz_2 := hs.size
    have A0_2 := A0_1.below hs
    clear hs A0_1 hb_1
    clear A0c0 A0c1 A0c2
    have A0c0 := A0_2.cell 0 rfl
    have A0c1 := A0_2.cell 1 rfl
    have A0c2 := A0_2.cell 2 rfl
    rw [hz0]
    go_wp2_with fail
    go_ret
    exact ⟨rfl, hb_2⟩
  have hz0 := szNN_yes hl0
  have hL : (lBN n0 p0 l0).length ≤ 1048576 := by
    have := lBN_len n0 p0 l0
    omega
  have hspec := hid (fun (v0 : Value) (w : World) (r0 : ReadsII w v0 l0) => vbn_spec n0 p0 v0 l0 w r0)
  have himpl := hid (fun (v0 : Value) (w : World) (r0 : ReadsII w v0 l0) => vbn_impl n0 p0 v0 l0 w r0)
  generalize lBN n0 p0 l0 = L at *
  generalize nBN n0 p0 l0 = N at *
  generalize codeBN n0 p0 l0 = C at *
  have hcc : (C != C) = false := by simp
  go_enter Try.func7, Try.ntmps7
  have hb_0 : Below W.heap.size W W := Below.refl _ _
  have hb_1 := hb_0.alloc hb_0.size (.cells #[.int .i64 n0, .int .i64 p0, a0] 24)
  have A0_1 := Bx.new W #[.int .i64 n0, .int .i64 p0, a0] 24
  have hz_1 := World.size_alloc W (.cells #[.int .i64 n0, .int .i64 p0, a0] 24)
  have A0c0 := A0_1.cell 0 rfl
  have A0c1 := A0_1.cell 1 rfl
  have A0c2 := A0_1.cell 2 rfl
  go_wp2_with fail
  refine (szN' _ _ _ _ (1048576) _ (h0.below hb_1) (by omega) (by omega)).mono ?_
  rintro e w1 ⟨rfl, hs⟩
  have hb_2 := hb_1.trans (hs.mono hb_1.size)
  have hz_2 := hs.size
  have A0_2 := A0_1.below hs
  clear hs A0_1 hb_1
  clear A0c0 A0c1 A0c2
  have A0c0 := A0_2.cell 0 rfl
  have A0c1 := A0_2.cell 1 rfl
  have A0c2 := A0_2.cell 2 rfl
  rw [hz0]
  go_wp2_with fail
  refine (toN _ _ _ _ _ (h0.below hb_2) (by omega)).mono ?_
  rintro e w2 ⟨cv, rfl, ho, hs⟩
  have hb_3 := hb_2.trans (hs.mono hb_2.size)
  have hz_3 := hs.size
  have A0_3 := A0_2.below hs
  obtain ⟨cva, cvn, cvc, rfl⟩ := ho.form3
  have cv_3 := ho
  clear ho
  clear hs A0_2 hb_2
  clear A0c0 A0c1 A0c2
  have A0c0 := A0_3.cell 0 rfl
  have A0c1 := A0_3.cell 1 rfl
  have A0c2 := A0_3.cell 2 rfl
  go_wp2_with fail
  refine (hspec.out _ _ cv_3.reads).mono ?_
  rintro e w3 ⟨v, rfl, ho, hs⟩
  have hb_4 := hb_3.trans (hs.mono hb_3.size)
  have hz_4 := hs.size
  have A0_4 := A0_3.below hs
  have cv_4 := cv_3.below hs
  obtain ⟨va, vn, vc, rfl⟩ := (OwnI.of ho).form
  have v_4 := OwnI.of ho
  clear ho
  clear hs A0_3 cv_3 hb_3
  clear A0c0 A0c1 A0c2
  have A0c0 := A0_4.cell 0 rfl
  have A0c1 := A0_4.cell 1 rfl
  have A0c2 := A0_4.cell 2 rfl
  have hb_5 := hb_4.alloc hb_4.size (.cells #[.int .i64 N, (.slice va vn vc)] 35)
  have A0_5 := A0_4.alloc (.cells #[.int .i64 N, (.slice va vn vc)] 35)
  have cv_5 := cv_4.alloc (.cells #[.int .i64 N, (.slice va vn vc)] 35)
  have v_5 := v_4.alloc (.cells #[.int .i64 N, (.slice va vn vc)] 35)
  have Xv_5 := Bx.new w3 #[.int .i64 N, (.slice va vn vc)] 35
  have hz_5 := World.size_alloc w3 (.cells #[.int .i64 N, (.slice va vn vc)] 35)
  clear A0_4 cv_4 v_4 hb_4
  clear A0c0 A0c1 A0c2
  have A0c0 := A0_5.cell 0 rfl
  have A0c1 := A0_5.cell 1 rfl
  have A0c2 := A0_5.cell 2 rfl
  have Xvc0 := Xv_5.cell 0 rfl
  have Xvc1 := Xv_5.cell 1 rfl
  go_wp2_with fail
  refine (toN _ _ _ _ _ (h0.below hb_5) (by omega)).mono ?_
  rintro e w4 ⟨x0, rfl, ho, hs⟩
  have hb_6 := hb_5.trans (hs.mono hb_5.size)
  have hz_6 := hs.size
  have A0_6 := A0_5.below hs
  have cv_6 := cv_5.below hs
  have v_6 := v_5.below hs
  have Xv_6 := Xv_5.below hs
  obtain ⟨x0a, x0n, x0c, rfl⟩ := ho.form3
  have x0_6 := ho
  clear ho
  clear hs A0_5 cv_5 v_5 Xv_5 hb_5
  clear A0c0 A0c1 A0c2 Xvc0 Xvc1
  have A0c0 := A0_6.cell 0 rfl
  have A0c1 := A0_6.cell 1 rfl
  have A0c2 := A0_6.cell 2 rfl
  have Xvc0 := Xv_6.cell 0 rfl
  have Xvc1 := Xv_6.cell 1 rfl
  have hb_7 := hb_6.alloc hb_6.size (.cells #[.int .i64 n0, .int .i64 p0, (.slice x0a x0n x0c)] 27)
  have A0_7 := A0_6.alloc (.cells #[.int .i64 n0, .int .i64 p0, (.slice x0a x0n x0c)] 27)
  have cv_7 := cv_6.alloc (.cells #[.int .i64 n0, .int .i64 p0, (.slice x0a x0n x0c)] 27)
  have v_7 := v_6.alloc (.cells #[.int .i64 n0, .int .i64 p0, (.slice x0a x0n x0c)] 27)
  have Xv_7 := Xv_6.alloc (.cells #[.int .i64 n0, .int .i64 p0, (.slice x0a x0n x0c)] 27)
  have x0_7 := x0_6.alloc (.cells #[.int .i64 n0, .int .i64 p0, (.slice x0a x0n x0c)] 27)
  have Xx0_7 := Bx.new w4 #[.int .i64 n0, .int .i64 p0, (.slice x0a x0n x0c)] 27
  have hz_7 := World.size_alloc w4 (.cells #[.int .i64 n0, .int .i64 p0, (.slice x0a x0n x0c)] 27)
  clear A0_6 cv_6 v_6 Xv_6 x0_6 hb_6
  clear A0c0 A0c1 A0c2 Xvc0 Xvc1
  have A0c0 := A0_7.cell 0 rfl
  have A0c1 := A0_7.cell 1 rfl
  have A0c2 := A0_7.cell 2 rfl
  have Xvc0 := Xv_7.cell 0 rfl
  have Xvc1 := Xv_7.cell 1 rfl
  have Xx0c0 := Xx0_7.cell 0 rfl
  have Xx0c1 := Xx0_7.cell 1 rfl
  have Xx0c2 := Xx0_7.cell 2 rfl
  go_wp2_with fail
  refine (himpl.out _ _ x0_7.reads).mono ?_
  rintro e w5 ⟨g, rfl, ho, hs⟩
  have hb_8 := hb_7.trans (hs.mono hb_7.size)
  have hz_8 := hs.size
  have A0_8 := A0_7.below hs
  have cv_8 := cv_7.below hs
  have v_8 := v_7.below hs
  have Xv_8 := Xv_7.below hs
  have x0_8 := x0_7.below hs
  have Xx0_8 := Xx0_7.below hs
  obtain ⟨ga, gn, gc, rfl⟩ := (OwnI.of ho).form
  have g_8 := OwnI.of ho
  clear ho
  clear hs A0_7 cv_7 v_7 Xv_7 x0_7 Xx0_7 hb_7
  clear A0c0 A0c1 A0c2 Xvc0 Xvc1 Xx0c0 Xx0c1 Xx0c2
  have A0c0 := A0_8.cell 0 rfl
  have A0c1 := A0_8.cell 1 rfl
  have A0c2 := A0_8.cell 2 rfl
  have Xvc0 := Xv_8.cell 0 rfl
  have Xvc1 := Xv_8.cell 1 rfl
  have Xx0c0 := Xx0_8.cell 0 rfl
  have Xx0c1 := Xx0_8.cell 1 rfl
  have Xx0c2 := Xx0_8.cell 2 rfl
  have hb_9 := hb_8.alloc hb_8.size (.cells #[.int .i64 N, (.slice ga gn gc)] 35)
  have A0_9 := A0_8.alloc (.cells #[.int .i64 N, (.slice ga gn gc)] 35)
  have cv_9 := cv_8.alloc (.cells #[.int .i64 N, (.slice ga gn gc)] 35)
  have v_9 := v_8.alloc (.cells #[.int .i64 N, (.slice ga gn gc)] 35)
  have Xv_9 := Xv_8.alloc (.cells #[.int .i64 N, (.slice ga gn gc)] 35)
  have x0_9 := x0_8.alloc (.cells #[.int .i64 N, (.slice ga gn gc)] 35)
  have Xx0_9 := Xx0_8.alloc (.cells #[.int .i64 N, (.slice ga gn gc)] 35)
  have g_9 := g_8.alloc (.cells #[.int .i64 N, (.slice ga gn gc)] 35)
  have Xg_9 := Bx.new w5 #[.int .i64 N, (.slice ga gn gc)] 35
  have hz_9 := World.size_alloc w5 (.cells #[.int .i64 N, (.slice ga gn gc)] 35)
  clear A0_8 cv_8 v_8 Xv_8 x0_8 Xx0_8 g_8 hb_8
  clear A0c0 A0c1 A0c2 Xvc0 Xvc1 Xx0c0 Xx0c1 Xx0c2
  have A0c0 := A0_9.cell 0 rfl
  have A0c1 := A0_9.cell 1 rfl
  have A0c2 := A0_9.cell 2 rfl
  have Xvc0 := Xv_9.cell 0 rfl
  have Xvc1 := Xv_9.cell 1 rfl
  have Xx0c0 := Xx0_9.cell 0 rfl
  have Xx0c1 := Xx0_9.cell 1 rfl
  have Xx0c2 := Xx0_9.cell 2 rfl
  have Xgc0 := Xg_9.cell 0 rfl
  have Xgc1 := Xg_9.cell 1 rfl
  go_wp2_with fail
  refine (eqB _ _ _ _ _ _ _ g_9.reads v_9.reads).mono ?_
  rintro e w6 ⟨rfl, hs⟩
  have hb_10 := hb_9.trans (hs.mono hb_9.size)
  have hz_10 := hs.size
  have A0_10 := A0_9.below hs
  have cv_10 := cv_9.below hs
  have v_10 := v_9.below hs
  have Xv_10 := Xv_9.below hs
  have x0_10 := x0_9.below hs
  have Xx0_10 := Xx0_9.below hs
  have g_10 := g_9.below hs
  have Xg_10 := Xg_9.below hs
  clear hs A0_9 cv_9 v_9 Xv_9 x0_9 Xx0_9 g_9 Xg_9 hb_9
  clear A0c0 A0c1 A0c2 Xvc0 Xvc1 Xx0c0 Xx0c1 Xx0c2 Xgc0 Xgc1
  have A0c0 := A0_10.cell 0 rfl
  have A0c1 := A0_10.cell 1 rfl
  have A0c2 := A0_10.cell 2 rfl
  have Xvc0 := Xv_10.cell 0 rfl
  have Xvc1 := Xv_10.cell 1 rfl
  have Xx0c0 := Xx0_10.cell 0 rfl
  have Xx0c1 := Xx0_10.cell 1 rfl
  have Xx0c2 := Xx0_10.cell 2 rfl
  have Xgc0 := Xg_10.cell 0 rfl
  have Xgc1 := Xg_10.cell 1 rfl
  rw [show (N == N && decide (L = L)) = true by simp]
  go_wp2_with fail
  have hO_A0 := hid (fun (w' : World) (hw : Below (w6).heap.size w6 w') => A0_10.below hw)
  have hO_cv := hid (fun (w' : World) (hw : Below (w6).heap.size w6 w') => cv_10.below hw)
  have hO_v := hid (fun (w' : World) (hw : Below (w6).heap.size w6 w') => v_10.below hw)
  have hO_Xv := hid (fun (w' : World) (hw : Below (w6).heap.size w6 w') => Xv_10.below hw)
  have hO_x0 := hid (fun (w' : World) (hw : Below (w6).heap.size w6 w') => x0_10.below hw)
  have hO_Xx0 := hid (fun (w' : World) (hw : Below (w6).heap.size w6 w') => Xx0_10.below hw)
  have hO_g := hid (fun (w' : World) (hw : Below (w6).heap.size w6 w') => g_10.below hw)
  have hO_Xg := hid (fun (w' : World) (hw : Below (w6).heap.size w6 w') => Xg_10.below hw)
  have hA := hid (fun (w' : World) (hw : Below (w6).heap.size w6 w') => (⟨h0.below (hb_10.trans (hw.mono hb_10.size)), trivial⟩ : ReadsII w' a0 l0 ∧ True))
  have hK := hid (fun (w' : World) (hw : Below (w6).heap.size w6 w') => (⟨(A0_10.below hw).cell 0 rfl, (A0_10.below hw).cell 1 rfl, (A0_10.below hw).cell 2 rfl, (Xx0_10.below hw).cell 0 rfl, (Xx0_10.below hw).cell 1 rfl, (Xx0_10.below hw).cell 2 rfl, trivial⟩ : w'.cell? ⟨W.heap.size, 0, none⟩ = some (.int .i64 n0) ∧ w'.cell? ⟨W.heap.size, 1, none⟩ = some (.int .i64 p0) ∧ w'.cell? ⟨W.heap.size, 2, none⟩ = some (a0) ∧ w'.cell? ⟨w4.heap.size, 0, none⟩ = some (.int .i64 n0) ∧ w'.cell? ⟨w4.heap.size, 1, none⟩ = some (.int .i64 p0) ∧ w'.cell? ⟨w4.heap.size, 2, none⟩ = some ((.slice x0a x0n x0c)) ∧ True))
  clear A0_10 cv_10 v_10 Xv_10 x0_10 Xx0_10 g_10 Xg_10
  go_region_held3 (fun w' => Below (w6).heap.size w6 w' ∧ w'.cell? ⟨W.heap.size, 0, none⟩ = some (.int .i64 n0) ∧ w'.cell? ⟨W.heap.size, 1, none⟩ = some (.int .i64 p0) ∧ w'.cell? ⟨W.heap.size, 2, none⟩ = some (a0) ∧ w'.cell? ⟨w4.heap.size, 0, none⟩ = some (.int .i64 n0) ∧ w'.cell? ⟨w4.heap.size, 1, none⟩ = some (.int .i64 p0) ∧ w'.cell? ⟨w4.heap.size, 2, none⟩ = some ((.slice x0a x0n x0c)) ∧ True) (first | exact ⟨(Below.refl _ _).drew, hK.out _ (Below.refl _ _).drew⟩ | exact ⟨hbT, hK.out _ hbT⟩ | exact ⟨hbS, hK.out _ hbS⟩) ((first | (go_at_call 15; refine (toN _ _ _ _ _ (hA.out _ (Below.refl _ _).drew).1 (by omega)).mono ?_; rintro e wy1 ⟨y1, rfl, hoy, hsy⟩; have hbS := (Below.refl (w6).heap.size w6).drew.trans (hsy.mono (by simp))) | (go_at_call 17; refine (eqN _ _ _ _ _ _ _ _ _ (hO_x0.out _ hbS).reads hoy.reads).mono ?_; rintro e wz1 ⟨rfl, hsz⟩; have hbT := hbS.trans (hsz.mono hbS.size); rw [show (n0 == n0 && (p0 == p0) && decide (l0 = l0)) = true by simp])))
  have hb_11 := hb_10.trans (hbT.mono hb_10.size)
  have hz_11 := hbT.size
  have A0_11 := hO_A0.out _ hbT
  have cv_11 := hO_cv.out _ hbT
  have v_11 := hO_v.out _ hbT
  have Xv_11 := hO_Xv.out _ hbT
  have x0_11 := hO_x0.out _ hbT
  have Xx0_11 := hO_Xx0.out _ hbT
  have g_11 := hO_g.out _ hbT
  have Xg_11 := hO_Xg.out _ hbT
  clear hA hO_A0 hO_cv hO_v hO_Xv hO_x0 hO_Xx0 hO_g hO_Xg hb_10
  clear A0c0 A0c1 A0c2 Xvc0 Xvc1 Xx0c0 Xx0c1 Xx0c2 Xgc0 Xgc1
  have A0c0 := A0_11.cell 0 rfl
  have A0c1 := A0_11.cell 1 rfl
  have A0c2 := A0_11.cell 2 rfl
  have Xvc0 := Xv_11.cell 0 rfl
  have Xvc1 := Xv_11.cell 1 rfl
  have Xx0c0 := Xx0_11.cell 0 rfl
  have Xx0c1 := Xx0_11.cell 1 rfl
  have Xx0c2 := Xx0_11.cell 2 rfl
  have Xgc0 := Xg_11.cell 0 rfl
  have Xgc1 := Xg_11.cell 1 rfl
  clear hbT hbS hsz hsy hoy hK
  go_wp2_with fail
  refine (markN _ _ _ _ (1) _ x0_11 (by omega) (by omega) (by omega)).mono ?_
  rintro e w7 ⟨rfl, ho, hg⟩
  have hs := hg
  have hb_12 := below_gri hb_11 hs (by have := hb_11.size; omega) hb_11.size
  have hz_12 := hs.size
  have A0_12 := A0_11.gri hs (by omega)
  have cv_12 := cv_11.gri hs (by omega)
  have v_12 := v_11.gri hs (by omega)
  have Xv_12 := Xv_11.gri hs (by omega)
  have Xx0_12 := Xx0_11.gri hs (by omega)
  have g_12 := g_11.gri hs (by omega)
  have Xg_12 := Xg_11.gri hs (by omega)
  have x0_12 := ho
  clear hs hg ho A0_11 cv_11 v_11 Xv_11 Xx0_11 g_11 Xg_11 x0_11 hb_11
  clear A0c0 A0c1 A0c2 Xvc0 Xvc1 Xx0c0 Xx0c1 Xx0c2 Xgc0 Xgc1
  have A0c0 := A0_12.cell 0 rfl
  have A0c1 := A0_12.cell 1 rfl
  have A0c2 := A0_12.cell 2 rfl
  have Xvc0 := Xv_12.cell 0 rfl
  have Xvc1 := Xv_12.cell 1 rfl
  have Xx0c0 := Xx0_12.cell 0 rfl
  have Xx0c1 := Xx0_12.cell 1 rfl
  have Xx0c2 := Xx0_12.cell 2 rfl
  have Xgc0 := Xg_12.cell 0 rfl
  have Xgc1 := Xg_12.cell 1 rfl
  go_wp2_with fail
  refine (eqB _ _ _ _ _ _ _ g_12.reads v_12.reads).mono ?_
  rintro e w8 ⟨rfl, hs⟩
  have hb_13 := hb_12.trans (hs.mono hb_12.size)
  have hz_13 := hs.size
  have A0_13 := A0_12.below hs
  have cv_13 := cv_12.below hs
  have v_13 := v_12.below hs
  have Xv_13 := Xv_12.below hs
  have x0_13 := x0_12.below hs
  have Xx0_13 := Xx0_12.below hs
  have g_13 := g_12.below hs
  have Xg_13 := Xg_12.below hs
  clear hs A0_12 cv_12 v_12 Xv_12 x0_12 Xx0_12 g_12 Xg_12 hb_12
  clear A0c0 A0c1 A0c2 Xvc0 Xvc1 Xx0c0 Xx0c1 Xx0c2 Xgc0 Xgc1
  have A0c0 := A0_13.cell 0 rfl
  have A0c1 := A0_13.cell 1 rfl
  have A0c2 := A0_13.cell 2 rfl
  have Xvc0 := Xv_13.cell 0 rfl
  have Xvc1 := Xv_13.cell 1 rfl
  have Xx0c0 := Xx0_13.cell 0 rfl
  have Xx0c1 := Xx0_13.cell 1 rfl
  have Xx0c2 := Xx0_13.cell 2 rfl
  have Xgc0 := Xg_13.cell 0 rfl
  have Xgc1 := Xg_13.cell 1 rfl
  rw [show (N == N && decide (L = L)) = true by simp]
  go_wp2_with fail
  refine (markB _ _ _ (1) _ g_13.own (by omega) (by omega) (by omega)).mono ?_
  rintro e w9 ⟨rfl, ho, hg⟩
  have hs := GrI.of g_13 hg
  have hb_14 := below_gri hb_13 hs (by have := hb_13.size; omega) hb_13.size
  have hz_14 := hs.size
  have A0_14 := A0_13.gri hs (by omega)
  have cv_14 := cv_13.gri hs (by omega)
  have v_14 := v_13.gri hs (by omega)
  have Xv_14 := Xv_13.gri hs (by omega)
  have x0_14 := x0_13.gri hs (by omega)
  have Xx0_14 := Xx0_13.gri hs (by omega)
  have Xg_14 := Xg_13.gri hs (by omega)
  have g_14 := g_13.marked ho
  clear hs hg ho A0_13 cv_13 v_13 Xv_13 x0_13 Xx0_13 Xg_13 g_13 hb_13
  clear A0c0 A0c1 A0c2 Xvc0 Xvc1 Xx0c0 Xx0c1 Xx0c2 Xgc0 Xgc1
  have A0c0 := A0_14.cell 0 rfl
  have A0c1 := A0_14.cell 1 rfl
  have A0c2 := A0_14.cell 2 rfl
  have Xvc0 := Xv_14.cell 0 rfl
  have Xvc1 := Xv_14.cell 1 rfl
  have Xx0c0 := Xx0_14.cell 0 rfl
  have Xx0c1 := Xx0_14.cell 1 rfl
  have Xx0c2 := Xx0_14.cell 2 rfl
  have Xgc0 := Xg_14.cell 0 rfl
  have Xgc1 := Xg_14.cell 1 rfl
  go_wp2_with fail
  refine (heldB _ _ L.length 1 _ g_14.reads (by omega) (by omega) (by omega)).mono ?_
  rintro e w10 ⟨rfl, hs⟩
  have hb_15 := hb_14.trans (hs.mono hb_14.size)
  have hz_15 := hs.size
  have A0_15 := A0_14.below hs
  have cv_15 := cv_14.below hs
  have v_15 := v_14.below hs
  have Xv_15 := Xv_14.below hs
  have x0_15 := x0_14.below hs
  have Xx0_15 := Xx0_14.below hs
  have g_15 := g_14.below hs
  have Xg_15 := Xg_14.below hs
  clear hs A0_14 cv_14 v_14 Xv_14 x0_14 Xx0_14 g_14 Xg_14 hb_14
  clear A0c0 A0c1 A0c2 Xvc0 Xvc1 Xx0c0 Xx0c1 Xx0c2 Xgc0 Xgc1
  have A0c0 := A0_15.cell 0 rfl
  have A0c1 := A0_15.cell 1 rfl
  have A0c2 := A0_15.cell 2 rfl
  have Xvc0 := Xv_15.cell 0 rfl
  have Xvc1 := Xv_15.cell 1 rfl
  have Xx0c0 := Xx0_15.cell 0 rfl
  have Xx0c1 := Xx0_15.cell 1 rfl
  have Xx0c2 := Xx0_15.cell 2 rfl
  have Xgc0 := Xg_15.cell 0 rfl
  have Xgc1 := Xg_15.cell 1 rfl
  go_wp2_with fail
  refine (toN _ _ _ _ _ (h0.below hb_15) (by omega)).mono ?_
  rintro e w11 ⟨ch, rfl, ho, hs⟩
  have hb_16 := hb_15.trans (hs.mono hb_15.size)
  have hz_16 := hs.size
  have A0_16 := A0_15.below hs
  have cv_16 := cv_15.below hs
  have v_16 := v_15.below hs
  have Xv_16 := Xv_15.below hs
  have x0_16 := x0_15.below hs
  have Xx0_16 := Xx0_15.below hs
  have g_16 := g_15.below hs
  have Xg_16 := Xg_15.below hs
  obtain ⟨cha, chn, chc, rfl⟩ := ho.form3
  have ch_16 := ho
  clear ho
  clear hs A0_15 cv_15 v_15 Xv_15 x0_15 Xx0_15 g_15 Xg_15 hb_15
  clear A0c0 A0c1 A0c2 Xvc0 Xvc1 Xx0c0 Xx0c1 Xx0c2 Xgc0 Xgc1
  have A0c0 := A0_16.cell 0 rfl
  have A0c1 := A0_16.cell 1 rfl
  have A0c2 := A0_16.cell 2 rfl
  have Xvc0 := Xv_16.cell 0 rfl
  have Xvc1 := Xv_16.cell 1 rfl
  have Xx0c0 := Xx0_16.cell 0 rfl
  have Xx0c1 := Xx0_16.cell 1 rfl
  have Xx0c2 := Xx0_16.cell 2 rfl
  have Xgc0 := Xg_16.cell 0 rfl
  have Xgc1 := Xg_16.cell 1 rfl
  go_wp2_with fail
  refine (himpl.out _ _ ch_16.reads).mono ?_
  rintro e w12 ⟨h, rfl, ho, hs⟩
  have hb_17 := hb_16.trans (hs.mono hb_16.size)
  have hz_17 := hs.size
  have A0_17 := A0_16.below hs
  have cv_17 := cv_16.below hs
  have v_17 := v_16.below hs
  have Xv_17 := Xv_16.below hs
  have x0_17 := x0_16.below hs
  have Xx0_17 := Xx0_16.below hs
  have g_17 := g_16.below hs
  have Xg_17 := Xg_16.below hs
  have ch_17 := ch_16.below hs
  obtain ⟨ha, hn, hc, rfl⟩ := (OwnI.of ho).form
  have h_17 := OwnI.of ho
  clear ho
  clear hs A0_16 cv_16 v_16 Xv_16 x0_16 Xx0_16 g_16 Xg_16 ch_16 hb_16
  clear A0c0 A0c1 A0c2 Xvc0 Xvc1 Xx0c0 Xx0c1 Xx0c2 Xgc0 Xgc1
  have A0c0 := A0_17.cell 0 rfl
  have A0c1 := A0_17.cell 1 rfl
  have A0c2 := A0_17.cell 2 rfl
  have Xvc0 := Xv_17.cell 0 rfl
  have Xvc1 := Xv_17.cell 1 rfl
  have Xx0c0 := Xx0_17.cell 0 rfl
  have Xx0c1 := Xx0_17.cell 1 rfl
  have Xx0c2 := Xx0_17.cell 2 rfl
  have Xgc0 := Xg_17.cell 0 rfl
  have Xgc1 := Xg_17.cell 1 rfl
  have hb_18 := hb_17.alloc hb_17.size (.cells #[.int .i64 N, (.slice ha hn hc)] 35)
  have A0_18 := A0_17.alloc (.cells #[.int .i64 N, (.slice ha hn hc)] 35)
  have cv_18 := cv_17.alloc (.cells #[.int .i64 N, (.slice ha hn hc)] 35)
  have v_18 := v_17.alloc (.cells #[.int .i64 N, (.slice ha hn hc)] 35)
  have Xv_18 := Xv_17.alloc (.cells #[.int .i64 N, (.slice ha hn hc)] 35)
  have x0_18 := x0_17.alloc (.cells #[.int .i64 N, (.slice ha hn hc)] 35)
  have Xx0_18 := Xx0_17.alloc (.cells #[.int .i64 N, (.slice ha hn hc)] 35)
  have g_18 := g_17.alloc (.cells #[.int .i64 N, (.slice ha hn hc)] 35)
  have Xg_18 := Xg_17.alloc (.cells #[.int .i64 N, (.slice ha hn hc)] 35)
  have ch_18 := ch_17.alloc (.cells #[.int .i64 N, (.slice ha hn hc)] 35)
  have h_18 := h_17.alloc (.cells #[.int .i64 N, (.slice ha hn hc)] 35)
  have Xh_18 := Bx.new w12 #[.int .i64 N, (.slice ha hn hc)] 35
  have hz_18 := World.size_alloc w12 (.cells #[.int .i64 N, (.slice ha hn hc)] 35)
  clear A0_17 cv_17 v_17 Xv_17 x0_17 Xx0_17 g_17 Xg_17 ch_17 h_17 hb_17
  clear A0c0 A0c1 A0c2 Xvc0 Xvc1 Xx0c0 Xx0c1 Xx0c2 Xgc0 Xgc1
  have A0c0 := A0_18.cell 0 rfl
  have A0c1 := A0_18.cell 1 rfl
  have A0c2 := A0_18.cell 2 rfl
  have Xvc0 := Xv_18.cell 0 rfl
  have Xvc1 := Xv_18.cell 1 rfl
  have Xx0c0 := Xx0_18.cell 0 rfl
  have Xx0c1 := Xx0_18.cell 1 rfl
  have Xx0c2 := Xx0_18.cell 2 rfl
  have Xgc0 := Xg_18.cell 0 rfl
  have Xgc1 := Xg_18.cell 1 rfl
  have Xhc0 := Xh_18.cell 0 rfl
  have Xhc1 := Xh_18.cell 1 rfl
  go_wp2_with fail
  refine (eqB _ _ _ _ _ _ _ h_18.reads v_18.reads).mono ?_
  rintro e w13 ⟨rfl, hs⟩
  have hb_19 := hb_18.trans (hs.mono hb_18.size)
  have hz_19 := hs.size
  have A0_19 := A0_18.below hs
  have cv_19 := cv_18.below hs
  have v_19 := v_18.below hs
  have Xv_19 := Xv_18.below hs
  have x0_19 := x0_18.below hs
  have Xx0_19 := Xx0_18.below hs
  have g_19 := g_18.below hs
  have Xg_19 := Xg_18.below hs
  have ch_19 := ch_18.below hs
  have h_19 := h_18.below hs
  have Xh_19 := Xh_18.below hs
  clear hs A0_18 cv_18 v_18 Xv_18 x0_18 Xx0_18 g_18 Xg_18 ch_18 h_18 Xh_18 hb_18
  clear A0c0 A0c1 A0c2 Xvc0 Xvc1 Xx0c0 Xx0c1 Xx0c2 Xgc0 Xgc1 Xhc0 Xhc1
  have A0c0 := A0_19.cell 0 rfl
  have A0c1 := A0_19.cell 1 rfl
  have A0c2 := A0_19.cell 2 rfl
  have Xvc0 := Xv_19.cell 0 rfl
  have Xvc1 := Xv_19.cell 1 rfl
  have Xx0c0 := Xx0_19.cell 0 rfl
  have Xx0c1 := Xx0_19.cell 1 rfl
  have Xx0c2 := Xx0_19.cell 2 rfl
  have Xgc0 := Xg_19.cell 0 rfl
  have Xgc1 := Xg_19.cell 1 rfl
  have Xhc0 := Xh_19.cell 0 rfl
  have Xhc1 := Xh_19.cell 1 rfl
  rw [show (N == N && decide (L = L)) = true by simp]
  go_wp2_with fail
  refine (heldB _ _ L.length 1 _ g_19.reads (by omega) (by omega) (by omega)).mono ?_
  rintro e w14 ⟨rfl, hs⟩
  have hb_20 := hb_19.trans (hs.mono hb_19.size)
  have hz_20 := hs.size
  have A0_20 := A0_19.below hs
  have cv_20 := cv_19.below hs
  have v_20 := v_19.below hs
  have Xv_20 := Xv_19.below hs
  have x0_20 := x0_19.below hs
  have Xx0_20 := Xx0_19.below hs
  have g_20 := g_19.below hs
  have Xg_20 := Xg_19.below hs
  have ch_20 := ch_19.below hs
  have h_20 := h_19.below hs
  have Xh_20 := Xh_19.below hs
  clear hs A0_19 cv_19 v_19 Xv_19 x0_19 Xx0_19 g_19 Xg_19 ch_19 h_19 Xh_19 hb_19
  clear A0c0 A0c1 A0c2 Xvc0 Xvc1 Xx0c0 Xx0c1 Xx0c2 Xgc0 Xgc1 Xhc0 Xhc1
  have A0c0 := A0_20.cell 0 rfl
  have A0c1 := A0_20.cell 1 rfl
  have A0c2 := A0_20.cell 2 rfl
  have Xvc0 := Xv_20.cell 0 rfl
  have Xvc1 := Xv_20.cell 1 rfl
  have Xx0c0 := Xx0_20.cell 0 rfl
  have Xx0c1 := Xx0_20.cell 1 rfl
  have Xx0c2 := Xx0_20.cell 2 rfl
  have Xgc0 := Xg_20.cell 0 rfl
  have Xgc1 := Xg_20.cell 1 rfl
  have Xhc0 := Xh_20.cell 0 rfl
  have Xhc1 := Xh_20.cell 1 rfl
  go_wp2_with fail
  go_ret
  exact ⟨rfl, hb_20⟩


end Go.Proofs.Ytmeccemnmkobbaa
