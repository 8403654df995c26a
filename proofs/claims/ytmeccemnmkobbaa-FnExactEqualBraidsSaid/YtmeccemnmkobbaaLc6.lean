/- Walks of the exact laws on equal and trivial braids. -/
import Derived.Test.YtmeccemnmkobbaaLb1
import Derived.Test.YtmeccemnmkobbaaOwi
import Derived.Test.YtmeccemnmkobbaaRel
namespace Go.Proofs.Ytmeccemnmkobbaa
open Go.RowKit

set_option maxRecDepth 100000 in
set_option maxHeartbeats 8000000 in
theorem walk_FnExactEqualBraids (n0 : Int) (a0 : Value) (l0 : List Int) (n1 : Int) (a1 : Value) (l1 : List Int) (W : World) (h0 : Reads W a0 (ints l0)) (h1 : Reads W a1 (ints l1)) :
    Calls Try.prog 6 #[.agg #[.int .i64 n0, a0], .agg #[.int .i64 n1, a1]] W fun e w' => e = .returned (.bool true) ∧ Below W.heap.size W w' := by
  have hs0 := h0.small
  simp only [length_ints] at hs0
  have hs1 := h1.small
  simp only [length_ints] at hs1
  by_cases hl0 : (1048576 : Int) - (l0.length : Int) < 0
  case pos =>
    have hz0 := szN_no hl0
    go_enter Try.func6, Try.ntmps6
    have hb_0 : Below W.heap.size W W := Below.refl _ _
    have hb_1 := hb_0.alloc hb_0.size (.cells #[.int .i64 n0, a0] 48)
    have A0_1 := Bx.new W #[.int .i64 n0, a0] 48
    have hz_1 := World.size_alloc W (.cells #[.int .i64 n0, a0] 48)
    have hb_2 := hb_1.alloc hb_1.size (.cells #[.int .i64 n1, a1] 48)
    have A0_2 := A0_1.alloc (.cells #[.int .i64 n1, a1] 48)
    have A1_2 := Bx.new (W.alloc (.cells #[.int .i64 n0, a0] 48)) #[.int .i64 n1, a1] 48
    have hz_2 := World.size_alloc (W.alloc (.cells #[.int .i64 n0, a0] 48)) (.cells #[.int .i64 n1, a1] 48)
    clear A0_1 hb_1
    simp only [World.size_alloc] at A1_2
    have A0c0 := A0_2.cell 0 rfl
    have A0c1 := A0_2.cell 1 rfl
    have A1c0 := A1_2.cell 0 rfl
    have A1c1 := A1_2.cell 1 rfl
    go_wp2_with fail
    refine (szB _ _ _ (1048576) _ (h0.below hb_2) (by omega) (by omega)).mono ?_
    rintro e w1 ⟨rfl, hs⟩
    have hb_3 := hb_2.trans (hs.mono hb_2.size)
    have hz_3 := hs.size
    have A0_3 := A0_2.below hs
    have A1_3 := A1_2.below hs
    clear hs A0_2 A1_2 hb_2
    clear A0c0 A0c1 A1c0 A1c1
    have A0c0 := A0_3.cell 0 rfl
    have A0c1 := A0_3.cell 1 rfl
    have A1c0 := A1_3.cell 0 rfl
    have A1c1 := A1_3.cell 1 rfl
    rw [hz0]
    go_wp2_with fail
    go_ret
    exact ⟨rfl, hb_3⟩
  by_cases hl1 : (1048576 : Int) - (l0.length : Int) - (l1.length : Int) < 0
  case pos =>
    have hz0 := szN_yes hl0
    have hz1 := szN_no hl1
    go_enter Try.func6, Try.ntmps6
    have hb_0 : Below W.heap.size W W := Below.refl _ _
    have hb_1 := hb_0.alloc hb_0.size (.cells #[.int .i64 n0, a0] 48)
    have A0_1 := Bx.new W #[.int .i64 n0, a0] 48
    have hz_1 := World.size_alloc W (.cells #[.int .i64 n0, a0] 48)
    have hb_2 := hb_1.alloc hb_1.size (.cells #[.int .i64 n1, a1] 48)
    have A0_2 := A0_1.alloc (.cells #[.int .i64 n1, a1] 48)
    have A1_2 := Bx.new (W.alloc (.cells #[.int .i64 n0, a0] 48)) #[.int .i64 n1, a1] 48
    have hz_2 := World.size_alloc (W.alloc (.cells #[.int .i64 n0, a0] 48)) (.cells #[.int .i64 n1, a1] 48)
    clear A0_1 hb_1
    simp only [World.size_alloc] at A1_2
    have A0c0 := A0_2.cell 0 rfl
    have A0c1 := A0_2.cell 1 rfl
    have A1c0 := A1_2.cell 0 rfl
    have A1c1 := A1_2.cell 1 rfl
    go_wp2_with fail
    refine (szB _ _ _ (1048576) _ (h0.below hb_2) (by omega) (by omega)).mono ?_
    rintro e w1 ⟨rfl, hs⟩
    have hb_3 := hb_2.trans (hs.mono hb_2.size)
    have hz_3 := hs.size
    have A0_3 := A0_2.below hs
    have A1_3 := A1_2.below hs
    clear hs A0_2 A1_2 hb_2
    clear A0c0 A0c1 A1c0 A1c1
    have A0c0 := A0_3.cell 0 rfl
    have A0c1 := A0_3.cell 1 rfl
    have A1c0 := A1_3.cell 0 rfl
    have A1c1 := A1_3.cell 1 rfl
    rw [hz0]
    go_wp2_with fail
    refine (szB _ _ _ (1048576 - ((l0.length : Int))) _ (h1.below hb_3) (by omega) (by omega)).mono ?_
    rintro e w2 ⟨rfl, hs⟩
    have hb_4 := hb_3.trans (hs.mono hb_3.size)
    have hz_4 := hs.size
    have A0_4 := A0_3.below hs
    have A1_4 := A1_3.below hs
    clear hs A0_3 A1_3 hb_3
    clear A0c0 A0c1 A1c0 A1c1
    have A0c0 := A0_4.cell 0 rfl
    have A0c1 := A0_4.cell 1 rfl
    have A1c0 := A1_4.cell 0 rfl
    have A1c1 := A1_4.cell 1 rfl
    rw [hz1]
    go_wp2_with fail
    go_ret
    exact ⟨rfl, hb_4⟩
  have hz0 := szN_yes hl0
  have hz1 := szN_yes hl1
  have hspec := hid (fun (v0 : Value) (v1 : Value) (w : World) (r0 : Reads w v0 (ints l0)) (r1 : Reads w v1 (ints l1)) => veq_spec n0 v0 l0 n1 v1 l1 w r0 r1)
  have himpl := hid (fun (v0 : Value) (v1 : Value) (w : World) (r0 : Reads w v0 (ints l0)) (r1 : Reads w v1 (ints l1)) => veq_impl n0 v0 l0 n1 v1 l1 w r0 r1)
  generalize eqBr n0 l0 n1 l1 = V at *
  have hvv : (V != V) = false := by simp
  go_enter Try.func6, Try.ntmps6
  have hb_0 : Below W.heap.size W W := Below.refl _ _
  have hb_1 := hb_0.alloc hb_0.size (.cells #[.int .i64 n0, a0] 48)
  have A0_1 := Bx.new W #[.int .i64 n0, a0] 48
  have hz_1 := World.size_alloc W (.cells #[.int .i64 n0, a0] 48)
  have hb_2 := hb_1.alloc hb_1.size (.cells #[.int .i64 n1, a1] 48)
  have A0_2 := A0_1.alloc (.cells #[.int .i64 n1, a1] 48)
  have A1_2 := Bx.new (W.alloc (.cells #[.int .i64 n0, a0] 48)) #[.int .i64 n1, a1] 48
  have hz_2 := World.size_alloc (W.alloc (.cells #[.int .i64 n0, a0] 48)) (.cells #[.int .i64 n1, a1] 48)
  clear A0_1 hb_1
  simp only [World.size_alloc] at A1_2
  have A0c0 := A0_2.cell 0 rfl
  have A0c1 := A0_2.cell 1 rfl
  have A1c0 := A1_2.cell 0 rfl
  have A1c1 := A1_2.cell 1 rfl
  go_wp2_with fail
  refine (szB _ _ _ (1048576) _ (h0.below hb_2) (by omega) (by omega)).mono ?_
  rintro e w1 ⟨rfl, hs⟩
  have hb_3 := hb_2.trans (hs.mono hb_2.size)
  have hz_3 := hs.size
  have A0_3 := A0_2.below hs
  have A1_3 := A1_2.below hs
  clear hs A0_2 A1_2 hb_2
  clear A0c0 A0c1 A1c0 A1c1
  have A0c0 := A0_3.cell 0 rfl
  have A0c1 := A0_3.cell 1 rfl
  have A1c0 := A1_3.cell 0 rfl
  have A1c1 := A1_3.cell 1 rfl
  rw [hz0]
  go_wp2_with fail
  refine (szB _ _ _ (1048576 - ((l0.length : Int))) _ (h1.below hb_3) (by omega) (by omega)).mono ?_
  rintro e w2 ⟨rfl, hs⟩
  have hb_4 := hb_3.trans (hs.mono hb_3.size)
  have hz_4 := hs.size
  have A0_4 := A0_3.below hs
  have A1_4 := A1_3.below hs
  clear hs A0_3 A1_3 hb_3
  clear A0c0 A0c1 A1c0 A1c1
  have A0c0 := A0_4.cell 0 rfl
  have A0c1 := A0_4.cell 1 rfl
  have A1c0 := A1_4.cell 0 rfl
  have A1c1 := A1_4.cell 1 rfl
  rw [hz1]
  go_wp2_with fail
  have hO_A0 := hid (fun (w' : World) (hw : Below (w2).heap.size w2 w') => A0_4.below hw)
  have hO_A1 := hid (fun (w' : World) (hw : Below (w2).heap.size w2 w') => A1_4.below hw)
  have hA := hid (fun (w' : World) (hw : Below (w2).heap.size w2 w') => (⟨h0.below (hb_4.trans (hw.mono hb_4.size)), h1.below (hb_4.trans (hw.mono hb_4.size)), trivial⟩ : Reads w' a0 (ints l0) ∧ Reads w' a1 (ints l1) ∧ True))
  have hK := hid (fun (w' : World) (hw : Below (w2).heap.size w2 w') => (⟨(A0_4.below hw).cell 0 rfl, (A0_4.below hw).cell 1 rfl, (A1_4.below hw).cell 0 rfl, (A1_4.below hw).cell 1 rfl, trivial⟩ : w'.cell? ⟨W.heap.size, 0, none⟩ = some (.int .i64 n0) ∧ w'.cell? ⟨W.heap.size, 1, none⟩ = some (a0) ∧ w'.cell? ⟨W.heap.size + 1, 0, none⟩ = some (.int .i64 n1) ∧ w'.cell? ⟨W.heap.size + 1, 1, none⟩ = some (a1) ∧ True))
  clear A0_4 A1_4
  go_region_held3 (fun w' => Below (w2).heap.size w2 w' ∧ w'.cell? ⟨W.heap.size, 0, none⟩ = some (.int .i64 n0) ∧ w'.cell? ⟨W.heap.size, 1, none⟩ = some (a0) ∧ w'.cell? ⟨W.heap.size + 1, 0, none⟩ = some (.int .i64 n1) ∧ w'.cell? ⟨W.heap.size + 1, 1, none⟩ = some (a1) ∧ True) (first | exact ⟨(Below.refl _ _).drew, hK.out _ (Below.refl _ _).drew⟩ | exact ⟨hbT, hK.out _ hbT⟩ | exact ⟨hbT.alloc hbT.size _, hK.out _ (hbT.alloc hbT.size _)⟩ | exact ⟨hba, hK.out _ hba⟩ | exact ⟨hbb, hK.out _ hbb⟩) ((first | (go_at_call_of 31 a0; refine (toB _ _ _ _ (by first | exact (hA.out _ hbb).1 | exact (hA.out _ (Below.refl _ _).drew).1) (by omega)).mono ?_; rintro e wa1 ⟨c0, rfl, hoa, hsa⟩; have hba : Below (w2).heap.size w2 wa1 := by first | exact hbb.trans (hsa.mono hbb.size) | exact (Below.refl (w2).heap.size w2).drew.trans (hsa.mono (by simp))) | (go_at_call_of 31 a1; refine (toB _ _ _ _ (by first | exact (hA.out _ hba).2.1 | exact (hA.out _ (Below.refl _ _).drew).2.1) (by omega)).mono ?_; rintro e wb1 ⟨c1, rfl, hob, hsb⟩; have hbb : Below (w2).heap.size w2 wb1 := by first | exact hba.trans (hsb.mono hba.size) | exact (Below.refl (w2).heap.size w2).drew.trans (hsb.mono (by simp))) | (go_at_call 34; refine (hspec.out _ _ _ (by first | exact hoa.reads | exact (hoa.below hsb).reads) (by first | exact hob.reads | exact (hob.below hsa).reads)).mono ?_; rintro e wz1 ⟨rfl, hsz⟩; have hbT : Below (w2).heap.size w2 wz1 := by first | exact hba.trans (hsz.mono hba.size) | exact hbb.trans (hsz.mono hbb.size))))
  all_goals
    clear hoa hob hsa hsb hba hbb hK
    have hb_5 := hb_4.trans (hbT.mono hb_4.size)
    have hz_5 := hbT.size
    have A0_5 := hO_A0.out _ hbT
    have A1_5 := hO_A1.out _ hbT
    clear hA hO_A0 hO_A1 hb_4
    clear A0c0 A0c1 A1c0 A1c1
    have A0c0 := A0_5.cell 0 rfl
    have A0c1 := A0_5.cell 1 rfl
    have A1c0 := A1_5.cell 0 rfl
    have A1c1 := A1_5.cell 1 rfl
    clear hbT hsz
    go_wp2_with fail
    refine (toB _ _ _ _ (h0.below hb_5) (by omega)).mono ?_
    rintro e w3 ⟨x0, rfl, ho, hs⟩
    have hb_6 := hb_5.trans (hs.mono hb_5.size)
    have hz_6 := hs.size
    have A0_6 := A0_5.below hs
    have A1_6 := A1_5.below hs
    obtain ⟨x0a, x0n, x0c, rfl⟩ := (OwnI.of ho).form
    have x0_6 := OwnI.of ho
    clear ho
    clear hs A0_5 A1_5 hb_5
    clear A0c0 A0c1 A1c0 A1c1
    have A0c0 := A0_6.cell 0 rfl
    have A0c1 := A0_6.cell 1 rfl
    have A1c0 := A1_6.cell 0 rfl
    have A1c1 := A1_6.cell 1 rfl
    have hb_7 := hb_6.alloc hb_6.size (.cells #[.int .i64 n0, (.slice x0a x0n x0c)] 35)
    have A0_7 := A0_6.alloc (.cells #[.int .i64 n0, (.slice x0a x0n x0c)] 35)
    have A1_7 := A1_6.alloc (.cells #[.int .i64 n0, (.slice x0a x0n x0c)] 35)
    have x0_7 := x0_6.alloc (.cells #[.int .i64 n0, (.slice x0a x0n x0c)] 35)
    have Xx0_7 := Bx.new w3 #[.int .i64 n0, (.slice x0a x0n x0c)] 35
    have hz_7 := World.size_alloc w3 (.cells #[.int .i64 n0, (.slice x0a x0n x0c)] 35)
    clear A0_6 A1_6 x0_6 hb_6
    clear A0c0 A0c1 A1c0 A1c1
    have A0c0 := A0_7.cell 0 rfl
    have A0c1 := A0_7.cell 1 rfl
    have A1c0 := A1_7.cell 0 rfl
    have A1c1 := A1_7.cell 1 rfl
    have Xx0c0 := Xx0_7.cell 0 rfl
    have Xx0c1 := Xx0_7.cell 1 rfl
    go_wp2_with fail
    refine (toB _ _ _ _ (h1.below hb_7) (by omega)).mono ?_
    rintro e w4 ⟨x1, rfl, ho, hs⟩
    have hb_8 := hb_7.trans (hs.mono hb_7.size)
    have hz_8 := hs.size
    have A0_8 := A0_7.below hs
    have A1_8 := A1_7.below hs
    have x0_8 := x0_7.below hs
    have Xx0_8 := Xx0_7.below hs
    obtain ⟨x1a, x1n, x1c, rfl⟩ := (OwnI.of ho).form
    have x1_8 := OwnI.of ho
    clear ho
    clear hs A0_7 A1_7 x0_7 Xx0_7 hb_7
    clear A0c0 A0c1 A1c0 A1c1 Xx0c0 Xx0c1
    have A0c0 := A0_8.cell 0 rfl
    have A0c1 := A0_8.cell 1 rfl
    have A1c0 := A1_8.cell 0 rfl
    have A1c1 := A1_8.cell 1 rfl
    have Xx0c0 := Xx0_8.cell 0 rfl
    have Xx0c1 := Xx0_8.cell 1 rfl
    have hb_9 := hb_8.alloc hb_8.size (.cells #[.int .i64 n1, (.slice x1a x1n x1c)] 35)
    have A0_9 := A0_8.alloc (.cells #[.int .i64 n1, (.slice x1a x1n x1c)] 35)
    have A1_9 := A1_8.alloc (.cells #[.int .i64 n1, (.slice x1a x1n x1c)] 35)
    have x0_9 := x0_8.alloc (.cells #[.int .i64 n1, (.slice x1a x1n x1c)] 35)
    have Xx0_9 := Xx0_8.alloc (.cells #[.int .i64 n1, (.slice x1a x1n x1c)] 35)
    have x1_9 := x1_8.alloc (.cells #[.int .i64 n1, (.slice x1a x1n x1c)] 35)
    have Xx1_9 := Bx.new w4 #[.int .i64 n1, (.slice x1a x1n x1c)] 35
    have hz_9 := World.size_alloc w4 (.cells #[.int .i64 n1, (.slice x1a x1n x1c)] 35)
    clear A0_8 A1_8 x0_8 Xx0_8 x1_8 hb_8
    clear A0c0 A0c1 A1c0 A1c1 Xx0c0 Xx0c1
    have A0c0 := A0_9.cell 0 rfl
    have A0c1 := A0_9.cell 1 rfl
    have A1c0 := A1_9.cell 0 rfl
    have A1c1 := A1_9.cell 1 rfl
    have Xx0c0 := Xx0_9.cell 0 rfl
    have Xx0c1 := Xx0_9.cell 1 rfl
    have Xx1c0 := Xx1_9.cell 0 rfl
    have Xx1c1 := Xx1_9.cell 1 rfl
    go_wp2_with fail
    refine (himpl.out _ _ _ x0_9.reads x1_9.reads).mono ?_
    rintro e w5 ⟨rfl, hs⟩
    have hb_10 := hb_9.trans (hs.mono hb_9.size)
    have hz_10 := hs.size
    have A0_10 := A0_9.below hs
    have A1_10 := A1_9.below hs
    have x0_10 := x0_9.below hs
    have Xx0_10 := Xx0_9.below hs
    have x1_10 := x1_9.below hs
    have Xx1_10 := Xx1_9.below hs
    clear hs A0_9 A1_9 x0_9 Xx0_9 x1_9 Xx1_9 hb_9
    clear A0c0 A0c1 A1c0 A1c1 Xx0c0 Xx0c1 Xx1c0 Xx1c1
    have A0c0 := A0_10.cell 0 rfl
    have A0c1 := A0_10.cell 1 rfl
    have A1c0 := A1_10.cell 0 rfl
    have A1c1 := A1_10.cell 1 rfl
    have Xx0c0 := Xx0_10.cell 0 rfl
    have Xx0c1 := Xx0_10.cell 1 rfl
    have Xx1c0 := Xx1_10.cell 0 rfl
    have Xx1c1 := Xx1_10.cell 1 rfl
    go_wp2_with fail
    have hO_A0 := hid (fun (w' : World) (hw : Below (w5).heap.size w5 w') => A0_10.below hw)
    have hO_A1 := hid (fun (w' : World) (hw : Below (w5).heap.size w5 w') => A1_10.below hw)
    have hO_x0 := hid (fun (w' : World) (hw : Below (w5).heap.size w5 w') => x0_10.below hw)
    have hO_Xx0 := hid (fun (w' : World) (hw : Below (w5).heap.size w5 w') => Xx0_10.below hw)
    have hO_x1 := hid (fun (w' : World) (hw : Below (w5).heap.size w5 w') => x1_10.below hw)
    have hO_Xx1 := hid (fun (w' : World) (hw : Below (w5).heap.size w5 w') => Xx1_10.below hw)
    have hA := hid (fun (w' : World) (hw : Below (w5).heap.size w5 w') => (⟨h0.below (hb_10.trans (hw.mono hb_10.size)), h1.below (hb_10.trans (hw.mono hb_10.size)), trivial⟩ : Reads w' a0 (ints l0) ∧ Reads w' a1 (ints l1) ∧ True))
    have hK := hid (fun (w' : World) (hw : Below (w5).heap.size w5 w') => (⟨(A0_10.below hw).cell 0 rfl, (A0_10.below hw).cell 1 rfl, (Xx0_10.below hw).cell 0 rfl, (Xx0_10.below hw).cell 1 rfl, trivial⟩ : w'.cell? ⟨W.heap.size, 0, none⟩ = some (.int .i64 n0) ∧ w'.cell? ⟨W.heap.size, 1, none⟩ = some (a0) ∧ w'.cell? ⟨w3.heap.size, 0, none⟩ = some (.int .i64 n0) ∧ w'.cell? ⟨w3.heap.size, 1, none⟩ = some ((.slice x0a x0n x0c)) ∧ True))
    clear A0_10 A1_10 x0_10 Xx0_10 x1_10 Xx1_10
    go_region_held3 (fun w' => Below (w5).heap.size w5 w' ∧ w'.cell? ⟨W.heap.size, 0, none⟩ = some (.int .i64 n0) ∧ w'.cell? ⟨W.heap.size, 1, none⟩ = some (a0) ∧ w'.cell? ⟨w3.heap.size, 0, none⟩ = some (.int .i64 n0) ∧ w'.cell? ⟨w3.heap.size, 1, none⟩ = some ((.slice x0a x0n x0c)) ∧ True) (first | exact ⟨(Below.refl _ _).drew, hK.out _ (Below.refl _ _).drew⟩ | exact ⟨hbT, hK.out _ hbT⟩ | exact ⟨hbS, hK.out _ hbS⟩) ((first | (go_at_call 31; refine (toB _ _ _ _ (hA.out _ (Below.refl _ _).drew).1 (by omega)).mono ?_; rintro e wy2 ⟨y2, rfl, hoy, hsy⟩; have hbS := (Below.refl (w5).heap.size w5).drew.trans (hsy.mono (by simp))) | (go_at_call 33; refine (eqB _ _ _ _ _ _ _ (hO_x0.out _ hbS).reads hoy.reads).mono ?_; rintro e wz2 ⟨rfl, hsz⟩; have hbT := hbS.trans (hsz.mono hbS.size); rw [show (n0 == n0 && decide (l0 = l0)) = true by simp])))
    have hb_11 := hb_10.trans (hbT.mono hb_10.size)
    have hz_11 := hbT.size
    have A0_11 := hO_A0.out _ hbT
    have A1_11 := hO_A1.out _ hbT
    have x0_11 := hO_x0.out _ hbT
    have Xx0_11 := hO_Xx0.out _ hbT
    have x1_11 := hO_x1.out _ hbT
    have Xx1_11 := hO_Xx1.out _ hbT
    clear hA hO_A0 hO_A1 hO_x0 hO_Xx0 hO_x1 hO_Xx1 hb_10
    clear A0c0 A0c1 A1c0 A1c1 Xx0c0 Xx0c1 Xx1c0 Xx1c1
    have A0c0 := A0_11.cell 0 rfl
    have A0c1 := A0_11.cell 1 rfl
    have A1c0 := A1_11.cell 0 rfl
    have A1c1 := A1_11.cell 1 rfl
    have Xx0c0 := Xx0_11.cell 0 rfl
    have Xx0c1 := Xx0_11.cell 1 rfl
    have Xx1c0 := Xx1_11.cell 0 rfl
    have Xx1c1 := Xx1_11.cell 1 rfl
    clear hbT hbS hsz hsy hoy hK
    go_wp2_with fail
    have hO_A0 := hid (fun (w' : World) (hw : Below (wz2).heap.size wz2 w') => A0_11.below hw)
    have hO_A1 := hid (fun (w' : World) (hw : Below (wz2).heap.size wz2 w') => A1_11.below hw)
    have hO_x0 := hid (fun (w' : World) (hw : Below (wz2).heap.size wz2 w') => x0_11.below hw)
    have hO_Xx0 := hid (fun (w' : World) (hw : Below (wz2).heap.size wz2 w') => Xx0_11.below hw)
    have hO_x1 := hid (fun (w' : World) (hw : Below (wz2).heap.size wz2 w') => x1_11.below hw)
    have hO_Xx1 := hid (fun (w' : World) (hw : Below (wz2).heap.size wz2 w') => Xx1_11.below hw)
    have hA := hid (fun (w' : World) (hw : Below (wz2).heap.size wz2 w') => (⟨h0.below (hb_11.trans (hw.mono hb_11.size)), h1.below (hb_11.trans (hw.mono hb_11.size)), trivial⟩ : Reads w' a0 (ints l0) ∧ Reads w' a1 (ints l1) ∧ True))
    have hK := hid (fun (w' : World) (hw : Below (wz2).heap.size wz2 w') => (⟨(A1_11.below hw).cell 0 rfl, (A1_11.below hw).cell 1 rfl, (Xx1_11.below hw).cell 0 rfl, (Xx1_11.below hw).cell 1 rfl, trivial⟩ : w'.cell? ⟨W.heap.size + 1, 0, none⟩ = some (.int .i64 n1) ∧ w'.cell? ⟨W.heap.size + 1, 1, none⟩ = some (a1) ∧ w'.cell? ⟨w4.heap.size, 0, none⟩ = some (.int .i64 n1) ∧ w'.cell? ⟨w4.heap.size, 1, none⟩ = some ((.slice x1a x1n x1c)) ∧ True))
    clear A0_11 A1_11 x0_11 Xx0_11 x1_11 Xx1_11
    go_region_held3 (fun w' => Below (wz2).heap.size wz2 w' ∧ w'.cell? ⟨W.heap.size + 1, 0, none⟩ = some (.int .i64 n1) ∧ w'.cell? ⟨W.heap.size + 1, 1, none⟩ = some (a1) ∧ w'.cell? ⟨w4.heap.size, 0, none⟩ = some (.int .i64 n1) ∧ w'.cell? ⟨w4.heap.size, 1, none⟩ = some ((.slice x1a x1n x1c)) ∧ True) (first | exact ⟨(Below.refl _ _).drew, hK.out _ (Below.refl _ _).drew⟩ | exact ⟨hbT, hK.out _ hbT⟩ | exact ⟨hbS, hK.out _ hbS⟩) ((first | (go_at_call 31; refine (toB _ _ _ _ (hA.out _ (Below.refl _ _).drew).2.1 (by omega)).mono ?_; rintro e wy3 ⟨y3, rfl, hoy, hsy⟩; have hbS := (Below.refl (wz2).heap.size wz2).drew.trans (hsy.mono (by simp))) | (go_at_call 33; refine (eqB _ _ _ _ _ _ _ (hO_x1.out _ hbS).reads hoy.reads).mono ?_; rintro e wz3 ⟨rfl, hsz⟩; have hbT := hbS.trans (hsz.mono hbS.size); rw [show (n1 == n1 && decide (l1 = l1)) = true by simp])))
    have hb_12 := hb_11.trans (hbT.mono hb_11.size)
    have hz_12 := hbT.size
    have A0_12 := hO_A0.out _ hbT
    have A1_12 := hO_A1.out _ hbT
    have x0_12 := hO_x0.out _ hbT
    have Xx0_12 := hO_Xx0.out _ hbT
    have x1_12 := hO_x1.out _ hbT
    have Xx1_12 := hO_Xx1.out _ hbT
    clear hA hO_A0 hO_A1 hO_x0 hO_Xx0 hO_x1 hO_Xx1 hb_11
    clear A0c0 A0c1 A1c0 A1c1 Xx0c0 Xx0c1 Xx1c0 Xx1c1
    have A0c0 := A0_12.cell 0 rfl
    have A0c1 := A0_12.cell 1 rfl
    have A1c0 := A1_12.cell 0 rfl
    have A1c1 := A1_12.cell 1 rfl
    have Xx0c0 := Xx0_12.cell 0 rfl
    have Xx0c1 := Xx0_12.cell 1 rfl
    have Xx1c0 := Xx1_12.cell 0 rfl
    have Xx1c1 := Xx1_12.cell 1 rfl
    clear hbT hbS hsz hsy hoy hK
    go_wp2_with fail
    go_ret
    exact ⟨rfl, hb_12⟩

set_option maxRecDepth 100000 in
set_option maxHeartbeats 8000000 in
theorem walk_FnExactIsTrivial (n0 : Int) (a0 : Value) (l0 : List Int) (W : World) (h0 : Reads W a0 (ints l0)) :
    Calls Try.prog 5 #[.agg #[.int .i64 n0, a0]] W fun e w' => e = .returned (.bool true) ∧ Below W.heap.size W w' := by
  have hs0 := h0.small
  simp only [length_ints] at hs0
  by_cases hl0 : (1048576 : Int) - (l0.length : Int) < 0
  case pos =>
    have hz0 := szN_no hl0
    go_enter Try.func5, Try.ntmps5
    have hb_0 : Below W.heap.size W W := Below.refl _ _
    have hb_1 := hb_0.alloc hb_0.size (.cells #[.int .i64 n0, a0] 48)
    have A0_1 := Bx.new W #[.int .i64 n0, a0] 48
    have hz_1 := World.size_alloc W (.cells #[.int .i64 n0, a0] 48)
    have A0c0 := A0_1.cell 0 rfl
    have A0c1 := A0_1.cell 1 rfl
    go_wp2_with fail
    refine (szB _ _ _ (1048576) _ (h0.below hb_1) (by omega) (by omega)).mono ?_
    rintro e w1 ⟨rfl, hs⟩
    have hb_2 := hb_1.trans (hs.mono hb_1.size)
    have hz_2 := hs.size
    have A0_2 := A0_1.below hs
    clear hs A0_1 hb_1
    clear A0c0 A0c1
    have A0c0 := A0_2.cell 0 rfl
    have A0c1 := A0_2.cell 1 rfl
    rw [hz0]
    go_wp2_with fail
    go_ret
    exact ⟨rfl, hb_2⟩
  have hz0 := szN_yes hl0
  have hspec := hid (fun (v0 : Value) (w : World) (r0 : Reads w v0 (ints l0)) => vtriv_spec n0 v0 l0 w r0)
  have himpl := hid (fun (v0 : Value) (w : World) (r0 : Reads w v0 (ints l0)) => vtriv_impl n0 v0 l0 w r0)
  generalize trivB n0 l0 = V at *
  have hvv : (V != V) = false := by simp
  go_enter Try.func5, Try.ntmps5
  have hb_0 : Below W.heap.size W W := Below.refl _ _
  have hb_1 := hb_0.alloc hb_0.size (.cells #[.int .i64 n0, a0] 48)
  have A0_1 := Bx.new W #[.int .i64 n0, a0] 48
  have hz_1 := World.size_alloc W (.cells #[.int .i64 n0, a0] 48)
  have A0c0 := A0_1.cell 0 rfl
  have A0c1 := A0_1.cell 1 rfl
  go_wp2_with fail
  refine (szB _ _ _ (1048576) _ (h0.below hb_1) (by omega) (by omega)).mono ?_
  rintro e w1 ⟨rfl, hs⟩
  have hb_2 := hb_1.trans (hs.mono hb_1.size)
  have hz_2 := hs.size
  have A0_2 := A0_1.below hs
  clear hs A0_1 hb_1
  clear A0c0 A0c1
  have A0c0 := A0_2.cell 0 rfl
  have A0c1 := A0_2.cell 1 rfl
  rw [hz0]
  go_wp2_with fail
  refine (toB _ _ _ _ (h0.below hb_2) (by omega)).mono ?_
  rintro e w2 ⟨cv, rfl, ho, hs⟩
  have hb_3 := hb_2.trans (hs.mono hb_2.size)
  have hz_3 := hs.size
  have A0_3 := A0_2.below hs
  obtain ⟨cva, cvn, cvc, rfl⟩ := (OwnI.of ho).form
  have cv_3 := OwnI.of ho
  clear ho
  clear hs A0_2 hb_2
  clear A0c0 A0c1
  have A0c0 := A0_3.cell 0 rfl
  have A0c1 := A0_3.cell 1 rfl
  go_wp2_with fail
  refine (hspec.out _ _ cv_3.reads).mono ?_
  rintro e w3 ⟨rfl, hs⟩
  have hb_4 := hb_3.trans (hs.mono hb_3.size)
  have hz_4 := hs.size
  have A0_4 := A0_3.below hs
  have cv_4 := cv_3.below hs
  clear hs A0_3 cv_3 hb_3
  clear A0c0 A0c1
  have A0c0 := A0_4.cell 0 rfl
  have A0c1 := A0_4.cell 1 rfl
  go_wp2_with fail
  refine (toB _ _ _ _ (h0.below hb_4) (by omega)).mono ?_
  rintro e w4 ⟨x0, rfl, ho, hs⟩
  have hb_5 := hb_4.trans (hs.mono hb_4.size)
  have hz_5 := hs.size
  have A0_5 := A0_4.below hs
  have cv_5 := cv_4.below hs
  obtain ⟨x0a, x0n, x0c, rfl⟩ := (OwnI.of ho).form
  have x0_5 := OwnI.of ho
  clear ho
  clear hs A0_4 cv_4 hb_4
  clear A0c0 A0c1
  have A0c0 := A0_5.cell 0 rfl
  have A0c1 := A0_5.cell 1 rfl
  have hb_6 := hb_5.alloc hb_5.size (.cells #[.int .i64 n0, (.slice x0a x0n x0c)] 35)
  have A0_6 := A0_5.alloc (.cells #[.int .i64 n0, (.slice x0a x0n x0c)] 35)
  have cv_6 := cv_5.alloc (.cells #[.int .i64 n0, (.slice x0a x0n x0c)] 35)
  have x0_6 := x0_5.alloc (.cells #[.int .i64 n0, (.slice x0a x0n x0c)] 35)
  have Xx0_6 := Bx.new w4 #[.int .i64 n0, (.slice x0a x0n x0c)] 35
  have hz_6 := World.size_alloc w4 (.cells #[.int .i64 n0, (.slice x0a x0n x0c)] 35)
  clear A0_5 cv_5 x0_5 hb_5
  clear A0c0 A0c1
  have A0c0 := A0_6.cell 0 rfl
  have A0c1 := A0_6.cell 1 rfl
  have Xx0c0 := Xx0_6.cell 0 rfl
  have Xx0c1 := Xx0_6.cell 1 rfl
  go_wp2_with fail
  refine (himpl.out _ _ x0_6.reads).mono ?_
  rintro e w5 ⟨rfl, hs⟩
  have hb_7 := hb_6.trans (hs.mono hb_6.size)
  have hz_7 := hs.size
  have A0_7 := A0_6.below hs
  have cv_7 := cv_6.below hs
  have x0_7 := x0_6.below hs
  have Xx0_7 := Xx0_6.below hs
  clear hs A0_6 cv_6 x0_6 Xx0_6 hb_6
  clear A0c0 A0c1 Xx0c0 Xx0c1
  have A0c0 := A0_7.cell 0 rfl
  have A0c1 := A0_7.cell 1 rfl
  have Xx0c0 := Xx0_7.cell 0 rfl
  have Xx0c1 := Xx0_7.cell 1 rfl
  go_wp2_with fail
  have hO_A0 := hid (fun (w' : World) (hw : Below (w5).heap.size w5 w') => A0_7.below hw)
  have hO_cv := hid (fun (w' : World) (hw : Below (w5).heap.size w5 w') => cv_7.below hw)
  have hO_x0 := hid (fun (w' : World) (hw : Below (w5).heap.size w5 w') => x0_7.below hw)
  have hO_Xx0 := hid (fun (w' : World) (hw : Below (w5).heap.size w5 w') => Xx0_7.below hw)
  have hA := hid (fun (w' : World) (hw : Below (w5).heap.size w5 w') => (⟨h0.below (hb_7.trans (hw.mono hb_7.size)), trivial⟩ : Reads w' a0 (ints l0) ∧ True))
  have hK := hid (fun (w' : World) (hw : Below (w5).heap.size w5 w') => (⟨(A0_7.below hw).cell 0 rfl, (A0_7.below hw).cell 1 rfl, (Xx0_7.below hw).cell 0 rfl, (Xx0_7.below hw).cell 1 rfl, trivial⟩ : w'.cell? ⟨W.heap.size, 0, none⟩ = some (.int .i64 n0) ∧ w'.cell? ⟨W.heap.size, 1, none⟩ = some (a0) ∧ w'.cell? ⟨w4.heap.size, 0, none⟩ = some (.int .i64 n0) ∧ w'.cell? ⟨w4.heap.size, 1, none⟩ = some ((.slice x0a x0n x0c)) ∧ True))
  clear A0_7 cv_7 x0_7 Xx0_7
  go_region_held3 (fun w' => Below (w5).heap.size w5 w' ∧ w'.cell? ⟨W.heap.size, 0, none⟩ = some (.int .i64 n0) ∧ w'.cell? ⟨W.heap.size, 1, none⟩ = some (a0) ∧ w'.cell? ⟨w4.heap.size, 0, none⟩ = some (.int .i64 n0) ∧ w'.cell? ⟨w4.heap.size, 1, none⟩ = some ((.slice x0a x0n x0c)) ∧ True) (first | exact ⟨(Below.refl _ _).drew, hK.out _ (Below.refl _ _).drew⟩ | exact ⟨hbT, hK.out _ hbT⟩ | exact ⟨hbS, hK.out _ hbS⟩) ((first | (go_at_call 31; refine (toB _ _ _ _ (hA.out _ (Below.refl _ _).drew).1 (by omega)).mono ?_; rintro e wy1 ⟨y1, rfl, hoy, hsy⟩; have hbS := (Below.refl (w5).heap.size w5).drew.trans (hsy.mono (by simp))) | (go_at_call 33; refine (eqB _ _ _ _ _ _ _ (hO_x0.out _ hbS).reads hoy.reads).mono ?_; rintro e wz1 ⟨rfl, hsz⟩; have hbT := hbS.trans (hsz.mono hbS.size); rw [show (n0 == n0 && decide (l0 = l0)) = true by simp])))
  have hb_8 := hb_7.trans (hbT.mono hb_7.size)
  have hz_8 := hbT.size
  have A0_8 := hO_A0.out _ hbT
  have cv_8 := hO_cv.out _ hbT
  have x0_8 := hO_x0.out _ hbT
  have Xx0_8 := hO_Xx0.out _ hbT
  clear hA hO_A0 hO_cv hO_x0 hO_Xx0 hb_7
  clear A0c0 A0c1 Xx0c0 Xx0c1
  have A0c0 := A0_8.cell 0 rfl
  have A0c1 := A0_8.cell 1 rfl
  have Xx0c0 := Xx0_8.cell 0 rfl
  have Xx0c1 := Xx0_8.cell 1 rfl
  clear hbT hbS hsz hsy hoy hK
  go_wp2_with fail
  go_ret
  exact ⟨rfl, hb_8⟩


end Go.Proofs.Ytmeccemnmkobbaa
