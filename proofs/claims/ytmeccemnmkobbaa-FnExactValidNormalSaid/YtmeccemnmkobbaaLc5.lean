/- Walks of the exact law of valid normal forms. -/
import Derived.Test.YtmeccemnmkobbaaLb1
import Derived.Test.YtmeccemnmkobbaaOwi
import Derived.Test.YtmeccemnmkobbaaReb
import Derived.Test.YtmeccemnmkobbaaSno
namespace Go.Proofs.Ytmeccemnmkobbaa
open Go.RowKit

set_option maxRecDepth 100000 in
set_option maxHeartbeats 8000000 in
theorem walk_FnExactValidNormal (n0 p0 : Int) (a0 : Value) (l0 : List (List Int)) (W : World) (h0 : ReadsII W a0 l0) :
    Calls Try.prog 3 #[.agg #[.int .i64 n0, .int .i64 p0, a0]] W fun e w' => e = .returned (.bool true) ∧ Below W.heap.size W w' := by
  have hs0 := h0.small
  have ht0 := tot_nonneg l0
  by_cases hl0 : (1048576 : Int) - (tot l0 + l0.length) < 0
  case pos =>
    have hz0 := szNN_no hl0
    go_enter Try.func3, Try.ntmps3
    have hb_0 : Below W.heap.size W W := Below.refl _ _
    have hb_1 := hb_0.alloc hb_0.size (.cells #[.int .i64 n0, .int .i64 p0, a0] 24)
    have A0_1 := Bx.new W #[.int .i64 n0, .int .i64 p0, a0] 24
    have hz_1 := World.size_alloc W (.cells #[.int .i64 n0, .int .i64 p0, a0] 24)
    have A0c0 := A0_1.cell 0 rfl
    have A0c1 := A0_1.cell 1 rfl
    have A0c2 := A0_1.cell 2 rfl
    go_wp2_with fail
    refine (szN' _ _ _ _ (1048576) _ (h0.below hb_1) (by omega) (by omega)).mono ?_
    rintro e w1 ⟨rfl, hs⟩
    have hb_2 := hb_1.trans (hs.mono hb_1.size)
    have hz_2 := hs.size
    have A0_2 := A0_1.below hs
    clear hs A0_1 hb_1
    clear A0c0 A0c1 A0c2
    have A0c0 := A0_2.cell 0 rfl
    have A0c1 := A0_2.cell 1 rfl
    have A0c2 := A0_2.cell 2 rfl
    rw [hz0]
    go_wp2_with fail
    go_ret
    exact ⟨rfl, hb_2⟩
  have hz0 := szNN_yes hl0
  have hspec := hid (fun (v0 : Value) (w : World) (r0 : ReadsII w v0 l0) => vn_spec n0 p0 v0 l0 w r0)
  have himpl := hid (fun (v0 : Value) (w : World) (r0 : ReadsII w v0 l0) => vn_impl n0 p0 v0 l0 w r0)
  generalize normB n0 p0 l0 = V at *
  have hvv : (V != V) = false := by simp
  go_enter Try.func3, Try.ntmps3
  have hb_0 : Below W.heap.size W W := Below.refl _ _
  have hb_1 := hb_0.alloc hb_0.size (.cells #[.int .i64 n0, .int .i64 p0, a0] 24)
  have A0_1 := Bx.new W #[.int .i64 n0, .int .i64 p0, a0] 24
  have hz_1 := World.size_alloc W (.cells #[.int .i64 n0, .int .i64 p0, a0] 24)
  have A0c0 := A0_1.cell 0 rfl
  have A0c1 := A0_1.cell 1 rfl
  have A0c2 := A0_1.cell 2 rfl
  go_wp2_with fail
  refine (szN' _ _ _ _ (1048576) _ (h0.below hb_1) (by omega) (by omega)).mono ?_
  rintro e w1 ⟨rfl, hs⟩
  have hb_2 := hb_1.trans (hs.mono hb_1.size)
  have hz_2 := hs.size
  have A0_2 := A0_1.below hs
  clear hs A0_1 hb_1
  clear A0c0 A0c1 A0c2
  have A0c0 := A0_2.cell 0 rfl
  have A0c1 := A0_2.cell 1 rfl
  have A0c2 := A0_2.cell 2 rfl
  rw [hz0]
  go_wp2_with fail
  refine (toN _ _ _ _ _ (h0.below hb_2) (by omega)).mono ?_
  rintro e w2 ⟨cv, rfl, ho, hs⟩
  have hb_3 := hb_2.trans (hs.mono hb_2.size)
  have hz_3 := hs.size
  have A0_3 := A0_2.below hs
  obtain ⟨cva, cvn, cvc, rfl⟩ := ho.form3
  have cv_3 := ho
  clear ho
  clear hs A0_2 hb_2
  clear A0c0 A0c1 A0c2
  have A0c0 := A0_3.cell 0 rfl
  have A0c1 := A0_3.cell 1 rfl
  have A0c2 := A0_3.cell 2 rfl
  go_wp2_with fail
  refine (hspec.out _ _ cv_3.reads).mono ?_
  rintro e w3 ⟨rfl, hs⟩
  have hb_4 := hb_3.trans (hs.mono hb_3.size)
  have hz_4 := hs.size
  have A0_4 := A0_3.below hs
  have cv_4 := cv_3.below hs
  clear hs A0_3 cv_3 hb_3
  clear A0c0 A0c1 A0c2
  have A0c0 := A0_4.cell 0 rfl
  have A0c1 := A0_4.cell 1 rfl
  have A0c2 := A0_4.cell 2 rfl
  go_wp2_with fail
  refine (toN _ _ _ _ _ (h0.below hb_4) (by omega)).mono ?_
  rintro e w4 ⟨x0, rfl, ho, hs⟩
  have hb_5 := hb_4.trans (hs.mono hb_4.size)
  have hz_5 := hs.size
  have A0_5 := A0_4.below hs
  have cv_5 := cv_4.below hs
  obtain ⟨x0a, x0n, x0c, rfl⟩ := ho.form3
  have x0_5 := ho
  clear ho
  clear hs A0_4 cv_4 hb_4
  clear A0c0 A0c1 A0c2
  have A0c0 := A0_5.cell 0 rfl
  have A0c1 := A0_5.cell 1 rfl
  have A0c2 := A0_5.cell 2 rfl
  have hb_6 := hb_5.alloc hb_5.size (.cells #[.int .i64 n0, .int .i64 p0, (.slice x0a x0n x0c)] 27)
  have A0_6 := A0_5.alloc (.cells #[.int .i64 n0, .int .i64 p0, (.slice x0a x0n x0c)] 27)
  have cv_6 := cv_5.alloc (.cells #[.int .i64 n0, .int .i64 p0, (.slice x0a x0n x0c)] 27)
  have x0_6 := x0_5.alloc (.cells #[.int .i64 n0, .int .i64 p0, (.slice x0a x0n x0c)] 27)
  have Xx0_6 := Bx.new w4 #[.int .i64 n0, .int .i64 p0, (.slice x0a x0n x0c)] 27
  have hz_6 := World.size_alloc w4 (.cells #[.int .i64 n0, .int .i64 p0, (.slice x0a x0n x0c)] 27)
  clear A0_5 cv_5 x0_5 hb_5
  clear A0c0 A0c1 A0c2
  have A0c0 := A0_6.cell 0 rfl
  have A0c1 := A0_6.cell 1 rfl
  have A0c2 := A0_6.cell 2 rfl
  have Xx0c0 := Xx0_6.cell 0 rfl
  have Xx0c1 := Xx0_6.cell 1 rfl
  have Xx0c2 := Xx0_6.cell 2 rfl
  go_wp2_with fail
  refine (himpl.out _ _ x0_6.reads).mono ?_
  rintro e w5 ⟨rfl, hs⟩
  have hb_7 := hb_6.trans (hs.mono hb_6.size)
  have hz_7 := hs.size
  have A0_7 := A0_6.below hs
  have cv_7 := cv_6.below hs
  have x0_7 := x0_6.below hs
  have Xx0_7 := Xx0_6.below hs
  clear hs A0_6 cv_6 x0_6 Xx0_6 hb_6
  clear A0c0 A0c1 A0c2 Xx0c0 Xx0c1 Xx0c2
  have A0c0 := A0_7.cell 0 rfl
  have A0c1 := A0_7.cell 1 rfl
  have A0c2 := A0_7.cell 2 rfl
  have Xx0c0 := Xx0_7.cell 0 rfl
  have Xx0c1 := Xx0_7.cell 1 rfl
  have Xx0c2 := Xx0_7.cell 2 rfl
  go_wp2_with fail
  have hO_A0 := hid (fun (w' : World) (hw : Below (w5).heap.size w5 w') => A0_7.below hw)
  have hO_cv := hid (fun (w' : World) (hw : Below (w5).heap.size w5 w') => cv_7.below hw)
  have hO_x0 := hid (fun (w' : World) (hw : Below (w5).heap.size w5 w') => x0_7.below hw)
  have hO_Xx0 := hid (fun (w' : World) (hw : Below (w5).heap.size w5 w') => Xx0_7.below hw)
  have hA := hid (fun (w' : World) (hw : Below (w5).heap.size w5 w') => (⟨h0.below (hb_7.trans (hw.mono hb_7.size)), trivial⟩ : ReadsII w' a0 l0 ∧ True))
  have hK := hid (fun (w' : World) (hw : Below (w5).heap.size w5 w') => (⟨(A0_7.below hw).cell 0 rfl, (A0_7.below hw).cell 1 rfl, (A0_7.below hw).cell 2 rfl, (Xx0_7.below hw).cell 0 rfl, (Xx0_7.below hw).cell 1 rfl, (Xx0_7.below hw).cell 2 rfl, trivial⟩ : w'.cell? ⟨W.heap.size, 0, none⟩ = some (.int .i64 n0) ∧ w'.cell? ⟨W.heap.size, 1, none⟩ = some (.int .i64 p0) ∧ w'.cell? ⟨W.heap.size, 2, none⟩ = some (a0) ∧ w'.cell? ⟨w4.heap.size, 0, none⟩ = some (.int .i64 n0) ∧ w'.cell? ⟨w4.heap.size, 1, none⟩ = some (.int .i64 p0) ∧ w'.cell? ⟨w4.heap.size, 2, none⟩ = some ((.slice x0a x0n x0c)) ∧ True))
  clear A0_7 cv_7 x0_7 Xx0_7
  go_region_held3 (fun w' => Below (w5).heap.size w5 w' ∧ w'.cell? ⟨W.heap.size, 0, none⟩ = some (.int .i64 n0) ∧ w'.cell? ⟨W.heap.size, 1, none⟩ = some (.int .i64 p0) ∧ w'.cell? ⟨W.heap.size, 2, none⟩ = some (a0) ∧ w'.cell? ⟨w4.heap.size, 0, none⟩ = some (.int .i64 n0) ∧ w'.cell? ⟨w4.heap.size, 1, none⟩ = some (.int .i64 p0) ∧ w'.cell? ⟨w4.heap.size, 2, none⟩ = some ((.slice x0a x0n x0c)) ∧ True) (first | exact ⟨(Below.refl _ _).drew, hK.out _ (Below.refl _ _).drew⟩ | exact ⟨hbT, hK.out _ hbT⟩ | exact ⟨hbS, hK.out _ hbS⟩) ((first | (go_at_call 15; refine (toN _ _ _ _ _ (hA.out _ (Below.refl _ _).drew).1 (by omega)).mono ?_; rintro e wy1 ⟨y1, rfl, hoy, hsy⟩; have hbS := (Below.refl (w5).heap.size w5).drew.trans (hsy.mono (by simp))) | (go_at_call 17; refine (eqN _ _ _ _ _ _ _ _ _ (hO_x0.out _ hbS).reads hoy.reads).mono ?_; rintro e wz1 ⟨rfl, hsz⟩; have hbT := hbS.trans (hsz.mono hbS.size); rw [show (n0 == n0 && (p0 == p0) && decide (l0 = l0)) = true by simp])))
  have hb_8 := hb_7.trans (hbT.mono hb_7.size)
  have hz_8 := hbT.size
  have A0_8 := hO_A0.out _ hbT
  have cv_8 := hO_cv.out _ hbT
  have x0_8 := hO_x0.out _ hbT
  have Xx0_8 := hO_Xx0.out _ hbT
  clear hA hO_A0 hO_cv hO_x0 hO_Xx0 hb_7
  clear A0c0 A0c1 A0c2 Xx0c0 Xx0c1 Xx0c2
  have A0c0 := A0_8.cell 0 rfl
  have A0c1 := A0_8.cell 1 rfl
  have A0c2 := A0_8.cell 2 rfl
  have Xx0c0 := Xx0_8.cell 0 rfl
  have Xx0c1 := Xx0_8.cell 1 rfl
  have Xx0c2 := Xx0_8.cell 2 rfl
  clear hbT hbS hsz hsy hoy hK
  go_wp2_with fail
  go_ret
  exact ⟨rfl, hb_8⟩


end Go.Proofs.Ytmeccemnmkobbaa
