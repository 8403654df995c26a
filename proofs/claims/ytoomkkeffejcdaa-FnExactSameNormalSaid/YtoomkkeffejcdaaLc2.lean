/- Walks of the exact law that compares normal forms. -/
import Derived.Test.YtoomkkeffejcdaaLb1
import Derived.Test.YtoomkkeffejcdaaOwi
import Derived.Test.YtoomkkeffejcdaaSno
namespace Go.Proofs.Ytoomkkeffejcdaa
open Go.RowKit

set_option maxHeartbeats 8000000 in
theorem walk_FnExactSameNormal (n0 p0 : Int) (a0 : Value) (l0 : List (List Int)) (n1 p1 : Int) (a1 : Value) (l1 : List (List Int)) (W : World) (h0 : ReadsII W a0 l0) (h1 : ReadsII W a1 l1) :
    Calls Try.prog 13 #[.agg #[.int .i64 n0, .int .i64 p0, a0], .agg #[.int .i64 n1, .int .i64 p1, a1]] W fun e w' => e = .returned (.bool true) ∧ Below W.heap.size W w' := by
  have hs0 := h0.small
  have ht0 := tot_nonneg l0
  have hs1 := h1.small
  have ht1 := tot_nonneg l1
  by_cases hl0 : (1048576 : Int) - (tot l0 + l0.length) < 0
  case pos =>
    have hz0 := szNN_no hl0
    go_enter Try.func13, Try.ntmps13
    have hb_0 : Below W.heap.size W W := Below.refl _ _
    have hb_1 := hb_0.alloc hb_0.size (.cells #[.int .i64 n0, .int .i64 p0, a0] 47)
    have A0_1 := Bx.new W #[.int .i64 n0, .int .i64 p0, a0] 47
    have hz_1 := World.size_alloc W (.cells #[.int .i64 n0, .int .i64 p0, a0] 47)
    have hb_2 := hb_1.alloc hb_1.size (.cells #[.int .i64 n1, .int .i64 p1, a1] 47)
    have A0_2 := A0_1.alloc (.cells #[.int .i64 n1, .int .i64 p1, a1] 47)
    have A1_2 := Bx.new (W.alloc (.cells #[.int .i64 n0, .int .i64 p0, a0] 47)) #[.int .i64 n1, .int .i64 p1, a1] 47
    have hz_2 := World.size_alloc (W.alloc (.cells #[.int .i64 n0, .int .i64 p0, a0] 47)) (.cells #[.int .i64 n1, .int .i64 p1, a1] 47)
    clear A0_1 hb_1
    simp only [World.size_alloc] at A1_2
    have A0c0 := A0_2.cell 0 rfl
    have A0c1 := A0_2.cell 1 rfl
    have A0c2 := A0_2.cell 2 rfl
    have A1c0 := A1_2.cell 0 rfl
    have A1c1 := A1_2.cell 1 rfl
    have A1c2 := A1_2.cell 2 rfl
    go_wp2_with fail
    refine (szN' _ _ _ _ (1048576) _ (h0.below hb_2) (by omega) (by omega)).mono ?_
    rintro e w1 ⟨rfl, hs⟩
    have hb_3 := hb_2.trans (hs.mono hb_2.size)
    have hz_3 := hs.size
    have A0_3 := A0_2.below hs
    have A1_3 := A1_2.below hs
    clear hs A0_2 A1_2 hb_2
    clear A0c0 A0c1 A0c2 A1c0 A1c1 A1c2
    have A0c0 := A0_3.cell 0 rfl
    have A0c1 := A0_3.cell 1 rfl
    have A0c2 := A0_3.cell 2 rfl
    have A1c0 := A1_3.cell 0 rfl
    have A1c1 := A1_3.cell 1 rfl
    have A1c2 := A1_3.cell 2 rfl
    rw [hz0]
    go_wp2_with fail
    go_ret
    exact ⟨rfl, hb_3⟩
  by_cases hl1 : (1048576 : Int) - (tot l0 + l0.length) - (tot l1 + l1.length) < 0
  case pos =>
    have hz0 := szNN_yes hl0
    have hz1 := szNN_no hl1
    go_enter Try.func13, Try.ntmps13
    have hb_0 : Below W.heap.size W W := Below.refl _ _
    have hb_1 := hb_0.alloc hb_0.size (.cells #[.int .i64 n0, .int .i64 p0, a0] 47)
    have A0_1 := Bx.new W #[.int .i64 n0, .int .i64 p0, a0] 47
    have hz_1 := World.size_alloc W (.cells #[.int .i64 n0, .int .i64 p0, a0] 47)
    have hb_2 := hb_1.alloc hb_1.size (.cells #[.int .i64 n1, .int .i64 p1, a1] 47)
    have A0_2 := A0_1.alloc (.cells #[.int .i64 n1, .int .i64 p1, a1] 47)
    have A1_2 := Bx.new (W.alloc (.cells #[.int .i64 n0, .int .i64 p0, a0] 47)) #[.int .i64 n1, .int .i64 p1, a1] 47
    have hz_2 := World.size_alloc (W.alloc (.cells #[.int .i64 n0, .int .i64 p0, a0] 47)) (.cells #[.int .i64 n1, .int .i64 p1, a1] 47)
    clear A0_1 hb_1
    simp only [World.size_alloc] at A1_2
    have A0c0 := A0_2.cell 0 rfl
    have A0c1 := A0_2.cell 1 rfl
    have A0c2 := A0_2.cell 2 rfl
    have A1c0 := A1_2.cell 0 rfl
    have A1c1 := A1_2.cell 1 rfl
    have A1c2 := A1_2.cell 2 rfl
    go_wp2_with fail
    refine (szN' _ _ _ _ (1048576) _ (h0.below hb_2) (by omega) (by omega)).mono ?_
    rintro e w1 ⟨rfl, hs⟩
    have hb_3 := hb_2.trans (hs.mono hb_2.size)
    have hz_3 := hs.size
    have A0_3 := A0_2.below hs
    have A1_3 := A1_2.below hs
    clear hs A0_2 A1_2 hb_2
    clear A0c0 A0c1 A0c2 A1c0 A1c1 A1c2
    have A0c0 := A0_3.cell 0 rfl
    have A0c1 := A0_3.cell 1 rfl
    have A0c2 := A0_3.cell 2 rfl
    have A1c0 := A1_3.cell 0 rfl
    have A1c1 := A1_3.cell 1 rfl
    have A1c2 := A1_3.cell 2 rfl
    rw [hz0]
    go_wp2_with fail
    refine (szN' _ _ _ _ (1048576 - ((tot l0 + l0.length))) _ (h1.below hb_3) (by omega) (by omega)).mono ?_
    rintro e w2 ⟨rfl, hs⟩
    have hb_4 := hb_3.trans (hs.mono hb_3.size)
    have hz_4 := hs.size
    have A0_4 := A0_3.below hs
    have A1_4 := A1_3.below hs
    clear hs A0_3 A1_3 hb_3
    clear A0c0 A0c1 A0c2 A1c0 A1c1 A1c2
    have A0c0 := A0_4.cell 0 rfl
    have A0c1 := A0_4.cell 1 rfl
    have A0c2 := A0_4.cell 2 rfl
    have A1c0 := A1_4.cell 0 rfl
    have A1c1 := A1_4.cell 1 rfl
    have A1c2 := A1_4.cell 2 rfl
    rw [hz1]
    go_wp2_with fail
    go_ret
    exact ⟨rfl, hb_4⟩
  have hz0 := szNN_yes hl0
  have hz1 := szNN_yes hl1
  have hspec := hid (fun (v0 : Value) (v1 : Value) (w : World) (r0 : ReadsII w v0 l0) (r1 : ReadsII w v1 l1) => sn_spec n0 p0 n1 p1 v0 v1 l0 l1 w r0 r1)
  have himpl := hid (fun (v0 : Value) (v1 : Value) (w : World) (r0 : ReadsII w v0 l0) (r1 : ReadsII w v1 l1) => sn_impl n0 p0 n1 p1 v0 v1 l0 l1 w r0 r1)
  generalize sameN n0 p0 l0 n1 p1 l1 = V at *
  have hvv : (V != V) = false := by simp
  go_enter Try.func13, Try.ntmps13
  have hb_0 : Below W.heap.size W W := Below.refl _ _
  have hb_1 := hb_0.alloc hb_0.size (.cells #[.int .i64 n0, .int .i64 p0, a0] 47)
  have A0_1 := Bx.new W #[.int .i64 n0, .int .i64 p0, a0] 47
  have hz_1 := World.size_alloc W (.cells #[.int .i64 n0, .int .i64 p0, a0] 47)
  have hb_2 := hb_1.alloc hb_1.size (.cells #[.int .i64 n1, .int .i64 p1, a1] 47)
  have A0_2 := A0_1.alloc (.cells #[.int .i64 n1, .int .i64 p1, a1] 47)
  have A1_2 := Bx.new (W.alloc (.cells #[.int .i64 n0, .int .i64 p0, a0] 47)) #[.int .i64 n1, .int .i64 p1, a1] 47
  have hz_2 := World.size_alloc (W.alloc (.cells #[.int .i64 n0, .int .i64 p0, a0] 47)) (.cells #[.int .i64 n1, .int .i64 p1, a1] 47)
  clear A0_1 hb_1
  simp only [World.size_alloc] at A1_2
  have A0c0 := A0_2.cell 0 rfl
  have A0c1 := A0_2.cell 1 rfl
  have A0c2 := A0_2.cell 2 rfl
  have A1c0 := A1_2.cell 0 rfl
  have A1c1 := A1_2.cell 1 rfl
  have A1c2 := A1_2.cell 2 rfl
  go_wp2_with fail
  refine (szN' _ _ _ _ (1048576) _ (h0.below hb_2) (by omega) (by omega)).mono ?_
  rintro e w1 ⟨rfl, hs⟩
  have hb_3 := hb_2.trans (hs.mono hb_2.size)
  have hz_3 := hs.size
  have A0_3 := A0_2.below hs
  have A1_3 := A1_2.below hs
  clear hs A0_2 A1_2 hb_2
  clear A0c0 A0c1 A0c2 A1c0 A1c1 A1c2
  have A0c0 := A0_3.cell 0 rfl
  have A0c1 := A0_3.cell 1 rfl
  have A0c2 := A0_3.cell 2 rfl
  have A1c0 := A1_3.cell 0 rfl
  have A1c1 := A1_3.cell 1 rfl
  have A1c2 := A1_3.cell 2 rfl
  rw [hz0]
  go_wp2_with fail
  refine (szN' _ _ _ _ (1048576 - ((tot l0 + l0.length))) _ (h1.below hb_3) (by omega) (by omega)).mono ?_
  rintro e w2 ⟨rfl, hs⟩
  have hb_4 := hb_3.trans (hs.mono hb_3.size)
  have hz_4 := hs.size
  have A0_4 := A0_3.below hs
  have A1_4 := A1_3.below hs
  clear hs A0_3 A1_3 hb_3
  clear A0c0 A0c1 A0c2 A1c0 A1c1 A1c2
  have A0c0 := A0_4.cell 0 rfl
  have A0c1 := A0_4.cell 1 rfl
  have A0c2 := A0_4.cell 2 rfl
  have A1c0 := A1_4.cell 0 rfl
  have A1c1 := A1_4.cell 1 rfl
  have A1c2 := A1_4.cell 2 rfl
  rw [hz1]
  go_wp2_with fail
  have hO_A0 := hid (fun (w' : World) (hw : Below (w2).heap.size w2 w') => A0_4.below hw)
  have hO_A1 := hid (fun (w' : World) (hw : Below (w2).heap.size w2 w') => A1_4.below hw)
  have hA := hid (fun (w' : World) (hw : Below (w2).heap.size w2 w') => (⟨h0.below (hb_4.trans (hw.mono hb_4.size)), h1.below (hb_4.trans (hw.mono hb_4.size)), trivial⟩ : ReadsII w' a0 l0 ∧ ReadsII w' a1 l1 ∧ True))
  have hK := hid (fun (w' : World) (hw : Below (w2).heap.size w2 w') => (⟨(A0_4.below hw).cell 0 rfl, (A0_4.below hw).cell 1 rfl, (A0_4.below hw).cell 2 rfl, (A1_4.below hw).cell 0 rfl, (A1_4.below hw).cell 1 rfl, (A1_4.below hw).cell 2 rfl, trivial⟩ : w'.cell? ⟨W.heap.size, 0, none⟩ = some (.int .i64 n0) ∧ w'.cell? ⟨W.heap.size, 1, none⟩ = some (.int .i64 p0) ∧ w'.cell? ⟨W.heap.size, 2, none⟩ = some (a0) ∧ w'.cell? ⟨W.heap.size + 1, 0, none⟩ = some (.int .i64 n1) ∧ w'.cell? ⟨W.heap.size + 1, 1, none⟩ = some (.int .i64 p1) ∧ w'.cell? ⟨W.heap.size + 1, 2, none⟩ = some (a1) ∧ True))
  clear A0_4 A1_4
  go_region_held3 (fun w' => Below (w2).heap.size w2 w' ∧ w'.cell? ⟨W.heap.size, 0, none⟩ = some (.int .i64 n0) ∧ w'.cell? ⟨W.heap.size, 1, none⟩ = some (.int .i64 p0) ∧ w'.cell? ⟨W.heap.size, 2, none⟩ = some (a0) ∧ w'.cell? ⟨W.heap.size + 1, 0, none⟩ = some (.int .i64 n1) ∧ w'.cell? ⟨W.heap.size + 1, 1, none⟩ = some (.int .i64 p1) ∧ w'.cell? ⟨W.heap.size + 1, 2, none⟩ = some (a1) ∧ True) (first | exact ⟨(Below.refl _ _).drew, hK.out _ (Below.refl _ _).drew⟩ | exact ⟨hbT, hK.out _ hbT⟩ | exact ⟨hba, hK.out _ hba⟩ | exact ⟨hbb, hK.out _ hbb⟩) ((first | (go_at_call_of 45 a0; refine (toN _ _ _ _ _ (by first | exact (hA.out _ hbb).1 | exact (hA.out _ (Below.refl _ _).drew).1) (by omega)).mono ?_; rintro e wa1 ⟨c0, rfl, hoa, hsa⟩; have hba : Below (w2).heap.size w2 wa1 := by first | exact hbb.trans (hsa.mono hbb.size) | exact (Below.refl (w2).heap.size w2).drew.trans (hsa.mono (by simp))) | (go_at_call_of 45 a1; refine (toN _ _ _ _ _ (by first | exact (hA.out _ hba).2.1 | exact (hA.out _ (Below.refl _ _).drew).2.1) (by omega)).mono ?_; rintro e wb1 ⟨c1, rfl, hob, hsb⟩; have hbb : Below (w2).heap.size w2 wb1 := by first | exact hba.trans (hsb.mono hba.size) | exact (Below.refl (w2).heap.size w2).drew.trans (hsb.mono (by simp))) | (go_at_call 44; refine (hspec.out _ _ _ (by first | exact hoa.reads | exact (hoa.below hsb).reads) (by first | exact hob.reads | exact (hob.below hsa).reads)).mono ?_; rintro e wz1 ⟨rfl, hsz⟩; have hbT : Below (w2).heap.size w2 wz1 := by first | exact hba.trans (hsz.mono hba.size) | exact hbb.trans (hsz.mono hbb.size))))
  all_goals
    clear hoa hob hsa hsb hba hbb hK
    have hb_5 := hb_4.trans (hbT.mono hb_4.size)
    have hz_5 := hbT.size
    have A0_5 := hO_A0.out _ hbT
    have A1_5 := hO_A1.out _ hbT
    clear hA hO_A0 hO_A1 hb_4
    clear A0c0 A0c1 A0c2 A1c0 A1c1 A1c2
    have A0c0 := A0_5.cell 0 rfl
    have A0c1 := A0_5.cell 1 rfl
    have A0c2 := A0_5.cell 2 rfl
    have A1c0 := A1_5.cell 0 rfl
    have A1c1 := A1_5.cell 1 rfl
    have A1c2 := A1_5.cell 2 rfl
    clear hbT hsz
    go_wp2_with fail
    refine (toN _ _ _ _ _ (h0.below hb_5) (by omega)).mono ?_
    rintro e w3 ⟨x0, rfl, ho, hs⟩
    have hb_6 := hb_5.trans (hs.mono hb_5.size)
    have hz_6 := hs.size
    have A0_6 := A0_5.below hs
    have A1_6 := A1_5.below hs
    obtain ⟨x0a, x0n, x0c, rfl⟩ := ho.form3
    have x0_6 := ho
    clear ho
    clear hs A0_5 A1_5 hb_5
    clear A0c0 A0c1 A0c2 A1c0 A1c1 A1c2
    have A0c0 := A0_6.cell 0 rfl
    have A0c1 := A0_6.cell 1 rfl
    have A0c2 := A0_6.cell 2 rfl
    have A1c0 := A1_6.cell 0 rfl
    have A1c1 := A1_6.cell 1 rfl
    have A1c2 := A1_6.cell 2 rfl
    have hb_7 := hb_6.alloc hb_6.size (.cells #[.int .i64 n0, .int .i64 p0, (.slice x0a x0n x0c)] 50)
    have A0_7 := A0_6.alloc (.cells #[.int .i64 n0, .int .i64 p0, (.slice x0a x0n x0c)] 50)
    have A1_7 := A1_6.alloc (.cells #[.int .i64 n0, .int .i64 p0, (.slice x0a x0n x0c)] 50)
    have x0_7 := x0_6.alloc (.cells #[.int .i64 n0, .int .i64 p0, (.slice x0a x0n x0c)] 50)
    have Xx0_7 := Bx.new w3 #[.int .i64 n0, .int .i64 p0, (.slice x0a x0n x0c)] 50
    have hz_7 := World.size_alloc w3 (.cells #[.int .i64 n0, .int .i64 p0, (.slice x0a x0n x0c)] 50)
    clear A0_6 A1_6 x0_6 hb_6
    clear A0c0 A0c1 A0c2 A1c0 A1c1 A1c2
    have A0c0 := A0_7.cell 0 rfl
    have A0c1 := A0_7.cell 1 rfl
    have A0c2 := A0_7.cell 2 rfl
    have A1c0 := A1_7.cell 0 rfl
    have A1c1 := A1_7.cell 1 rfl
    have A1c2 := A1_7.cell 2 rfl
    have Xx0c0 := Xx0_7.cell 0 rfl
    have Xx0c1 := Xx0_7.cell 1 rfl
    have Xx0c2 := Xx0_7.cell 2 rfl
    go_wp2_with fail
    refine (toN _ _ _ _ _ (h1.below hb_7) (by omega)).mono ?_
    rintro e w4 ⟨x1, rfl, ho, hs⟩
    have hb_8 := hb_7.trans (hs.mono hb_7.size)
    have hz_8 := hs.size
    have A0_8 := A0_7.below hs
    have A1_8 := A1_7.below hs
    have x0_8 := x0_7.below hs
    have Xx0_8 := Xx0_7.below hs
    obtain ⟨x1a, x1n, x1c, rfl⟩ := ho.form3
    have x1_8 := ho
    clear ho
    clear hs A0_7 A1_7 x0_7 Xx0_7 hb_7
    clear A0c0 A0c1 A0c2 A1c0 A1c1 A1c2 Xx0c0 Xx0c1 Xx0c2
    have A0c0 := A0_8.cell 0 rfl
    have A0c1 := A0_8.cell 1 rfl
    have A0c2 := A0_8.cell 2 rfl
    have A1c0 := A1_8.cell 0 rfl
    have A1c1 := A1_8.cell 1 rfl
    have A1c2 := A1_8.cell 2 rfl
    have Xx0c0 := Xx0_8.cell 0 rfl
    have Xx0c1 := Xx0_8.cell 1 rfl
    have Xx0c2 := Xx0_8.cell 2 rfl
    have hb_9 := hb_8.alloc hb_8.size (.cells #[.int .i64 n1, .int .i64 p1, (.slice x1a x1n x1c)] 50)
    have A0_9 := A0_8.alloc (.cells #[.int .i64 n1, .int .i64 p1, (.slice x1a x1n x1c)] 50)
    have A1_9 := A1_8.alloc (.cells #[.int .i64 n1, .int .i64 p1, (.slice x1a x1n x1c)] 50)
    have x0_9 := x0_8.alloc (.cells #[.int .i64 n1, .int .i64 p1, (.slice x1a x1n x1c)] 50)
    have Xx0_9 := Xx0_8.alloc (.cells #[.int .i64 n1, .int .i64 p1, (.slice x1a x1n x1c)] 50)
    have x1_9 := x1_8.alloc (.cells #[.int .i64 n1, .int .i64 p1, (.slice x1a x1n x1c)] 50)
    have Xx1_9 := Bx.new w4 #[.int .i64 n1, .int .i64 p1, (.slice x1a x1n x1c)] 50
    have hz_9 := World.size_alloc w4 (.cells #[.int .i64 n1, .int .i64 p1, (.slice x1a x1n x1c)] 50)
    clear A0_8 A1_8 x0_8 Xx0_8 x1_8 hb_8
    clear A0c0 A0c1 A0c2 A1c0 A1c1 A1c2 Xx0c0 Xx0c1 Xx0c2
    have A0c0 := A0_9.cell 0 rfl
    have A0c1 := A0_9.cell 1 rfl
    have A0c2 := A0_9.cell 2 rfl
    have A1c0 := A1_9.cell 0 rfl
    have A1c1 := A1_9.cell 1 rfl
    have A1c2 := A1_9.cell 2 rfl
    have Xx0c0 := Xx0_9.cell 0 rfl
    have Xx0c1 := Xx0_9.cell 1 rfl
    have Xx0c2 := Xx0_9.cell 2 rfl
    have Xx1c0 := Xx1_9.cell 0 rfl
    have Xx1c1 := Xx1_9.cell 1 rfl
    have Xx1c2 := Xx1_9.cell 2 rfl
    go_wp2_with fail
    refine (himpl.out _ _ _ x0_9.reads x1_9.reads).mono ?_
    rintro e w5 ⟨rfl, hs⟩
    have hb_10 := hb_9.trans (hs.mono hb_9.size)
    have hz_10 := hs.size
    have A0_10 := A0_9.below hs
    have A1_10 := A1_9.below hs
    have x0_10 := x0_9.below hs
    have Xx0_10 := Xx0_9.below hs
    have x1_10 := x1_9.below hs
    have Xx1_10 := Xx1_9.below hs
    clear hs A0_9 A1_9 x0_9 Xx0_9 x1_9 Xx1_9 hb_9
    clear A0c0 A0c1 A0c2 A1c0 A1c1 A1c2 Xx0c0 Xx0c1 Xx0c2 Xx1c0 Xx1c1 Xx1c2
    have A0c0 := A0_10.cell 0 rfl
    have A0c1 := A0_10.cell 1 rfl
    have A0c2 := A0_10.cell 2 rfl
    have A1c0 := A1_10.cell 0 rfl
    have A1c1 := A1_10.cell 1 rfl
    have A1c2 := A1_10.cell 2 rfl
    have Xx0c0 := Xx0_10.cell 0 rfl
    have Xx0c1 := Xx0_10.cell 1 rfl
    have Xx0c2 := Xx0_10.cell 2 rfl
    have Xx1c0 := Xx1_10.cell 0 rfl
    have Xx1c1 := Xx1_10.cell 1 rfl
    have Xx1c2 := Xx1_10.cell 2 rfl
    go_wp2_with fail
    have hO_A0 := hid (fun (w' : World) (hw : Below (w5).heap.size w5 w') => A0_10.below hw)
    have hO_A1 := hid (fun (w' : World) (hw : Below (w5).heap.size w5 w') => A1_10.below hw)
    have hO_x0 := hid (fun (w' : World) (hw : Below (w5).heap.size w5 w') => x0_10.below hw)
    have hO_Xx0 := hid (fun (w' : World) (hw : Below (w5).heap.size w5 w') => Xx0_10.below hw)
    have hO_x1 := hid (fun (w' : World) (hw : Below (w5).heap.size w5 w') => x1_10.below hw)
    have hO_Xx1 := hid (fun (w' : World) (hw : Below (w5).heap.size w5 w') => Xx1_10.below hw)
    have hA := hid (fun (w' : World) (hw : Below (w5).heap.size w5 w') => (⟨h0.below (hb_10.trans (hw.mono hb_10.size)), h1.below (hb_10.trans (hw.mono hb_10.size)), trivial⟩ : ReadsII w' a0 l0 ∧ ReadsII w' a1 l1 ∧ True))
    have hK := hid (fun (w' : World) (hw : Below (w5).heap.size w5 w') => (⟨(A0_10.below hw).cell 0 rfl, (A0_10.below hw).cell 1 rfl, (A0_10.below hw).cell 2 rfl, (Xx0_10.below hw).cell 0 rfl, (Xx0_10.below hw).cell 1 rfl, (Xx0_10.below hw).cell 2 rfl, trivial⟩ : w'.cell? ⟨W.heap.size, 0, none⟩ = some (.int .i64 n0) ∧ w'.cell? ⟨W.heap.size, 1, none⟩ = some (.int .i64 p0) ∧ w'.cell? ⟨W.heap.size, 2, none⟩ = some (a0) ∧ w'.cell? ⟨w3.heap.size, 0, none⟩ = some (.int .i64 n0) ∧ w'.cell? ⟨w3.heap.size, 1, none⟩ = some (.int .i64 p0) ∧ w'.cell? ⟨w3.heap.size, 2, none⟩ = some ((.slice x0a x0n x0c)) ∧ True))
    clear A0_10 A1_10 x0_10 Xx0_10 x1_10 Xx1_10
    go_region_held3 (fun w' => Below (w5).heap.size w5 w' ∧ w'.cell? ⟨W.heap.size, 0, none⟩ = some (.int .i64 n0) ∧ w'.cell? ⟨W.heap.size, 1, none⟩ = some (.int .i64 p0) ∧ w'.cell? ⟨W.heap.size, 2, none⟩ = some (a0) ∧ w'.cell? ⟨w3.heap.size, 0, none⟩ = some (.int .i64 n0) ∧ w'.cell? ⟨w3.heap.size, 1, none⟩ = some (.int .i64 p0) ∧ w'.cell? ⟨w3.heap.size, 2, none⟩ = some ((.slice x0a x0n x0c)) ∧ True) (first | exact ⟨(Below.refl _ _).drew, hK.out _ (Below.refl _ _).drew⟩ | exact ⟨hbT, hK.out _ hbT⟩ | exact ⟨hbS, hK.out _ hbS⟩) ((first | (go_at_call 45; refine (toN _ _ _ _ _ (hA.out _ (Below.refl _ _).drew).1 (by omega)).mono ?_; rintro e wy2 ⟨y2, rfl, hoy, hsy⟩; have hbS := (Below.refl (w5).heap.size w5).drew.trans (hsy.mono (by simp))) | (go_at_call 47; refine (eqN _ _ _ _ _ _ _ _ _ (hO_x0.out _ hbS).reads hoy.reads).mono ?_; rintro e wz2 ⟨rfl, hsz⟩; have hbT := hbS.trans (hsz.mono hbS.size); rw [show (n0 == n0 && (p0 == p0) && decide (l0 = l0)) = true by simp])))
    have hb_11 := hb_10.trans (hbT.mono hb_10.size)
    have hz_11 := hbT.size
    have A0_11 := hO_A0.out _ hbT
    have A1_11 := hO_A1.out _ hbT
    have x0_11 := hO_x0.out _ hbT
    have Xx0_11 := hO_Xx0.out _ hbT
    have x1_11 := hO_x1.out _ hbT
    have Xx1_11 := hO_Xx1.out _ hbT
    clear hA hO_A0 hO_A1 hO_x0 hO_Xx0 hO_x1 hO_Xx1 hb_10
    clear A0c0 A0c1 A0c2 A1c0 A1c1 A1c2 Xx0c0 Xx0c1 Xx0c2 Xx1c0 Xx1c1 Xx1c2
    have A0c0 := A0_11.cell 0 rfl
    have A0c1 := A0_11.cell 1 rfl
    have A0c2 := A0_11.cell 2 rfl
    have A1c0 := A1_11.cell 0 rfl
    have A1c1 := A1_11.cell 1 rfl
    have A1c2 := A1_11.cell 2 rfl
    have Xx0c0 := Xx0_11.cell 0 rfl
    have Xx0c1 := Xx0_11.cell 1 rfl
    have Xx0c2 := Xx0_11.cell 2 rfl
    have Xx1c0 := Xx1_11.cell 0 rfl
    have Xx1c1 := Xx1_11.cell 1 rfl
    have Xx1c2 := Xx1_11.cell 2 rfl
    clear hbT hbS hsz hsy hoy hK
    go_wp2_with fail
    have hO_A0 := hid (fun (w' : World) (hw : Below (wz2).heap.size wz2 w') => A0_11.below hw)
    have hO_A1 := hid (fun (w' : World) (hw : Below (wz2).heap.size wz2 w') => A1_11.below hw)
    have hO_x0 := hid (fun (w' : World) (hw : Below (wz2).heap.size wz2 w') => x0_11.below hw)
    have hO_Xx0 := hid (fun (w' : World) (hw : Below (wz2).heap.size wz2 w') => Xx0_11.below hw)
    have hO_x1 := hid (fun (w' : World) (hw : Below (wz2).heap.size wz2 w') => x1_11.below hw)
    have hO_Xx1 := hid (fun (w' : World) (hw : Below (wz2).heap.size wz2 w') => Xx1_11.below hw)
    have hA := hid (fun (w' : World) (hw : Below (wz2).heap.size wz2 w') => (⟨h0.below (hb_11.trans (hw.mono hb_11.size)), h1.below (hb_11.trans (hw.mono hb_11.size)), trivial⟩ : ReadsII w' a0 l0 ∧ ReadsII w' a1 l1 ∧ True))
    have hK := hid (fun (w' : World) (hw : Below (wz2).heap.size wz2 w') => (⟨(A1_11.below hw).cell 0 rfl, (A1_11.below hw).cell 1 rfl, (A1_11.below hw).cell 2 rfl, (Xx1_11.below hw).cell 0 rfl, (Xx1_11.below hw).cell 1 rfl, (Xx1_11.below hw).cell 2 rfl, trivial⟩ : w'.cell? ⟨W.heap.size + 1, 0, none⟩ = some (.int .i64 n1) ∧ w'.cell? ⟨W.heap.size + 1, 1, none⟩ = some (.int .i64 p1) ∧ w'.cell? ⟨W.heap.size + 1, 2, none⟩ = some (a1) ∧ w'.cell? ⟨w4.heap.size, 0, none⟩ = some (.int .i64 n1) ∧ w'.cell? ⟨w4.heap.size, 1, none⟩ = some (.int .i64 p1) ∧ w'.cell? ⟨w4.heap.size, 2, none⟩ = some ((.slice x1a x1n x1c)) ∧ True))
    clear A0_11 A1_11 x0_11 Xx0_11 x1_11 Xx1_11
    go_region_held3 (fun w' => Below (wz2).heap.size wz2 w' ∧ w'.cell? ⟨W.heap.size + 1, 0, none⟩ = some (.int .i64 n1) ∧ w'.cell? ⟨W.heap.size + 1, 1, none⟩ = some (.int .i64 p1) ∧ w'.cell? ⟨W.heap.size + 1, 2, none⟩ = some (a1) ∧ w'.cell? ⟨w4.heap.size, 0, none⟩ = some (.int .i64 n1) ∧ w'.cell? ⟨w4.heap.size, 1, none⟩ = some (.int .i64 p1) ∧ w'.cell? ⟨w4.heap.size, 2, none⟩ = some ((.slice x1a x1n x1c)) ∧ True) (first | exact ⟨(Below.refl _ _).drew, hK.out _ (Below.refl _ _).drew⟩ | exact ⟨hbT, hK.out _ hbT⟩ | exact ⟨hbS, hK.out _ hbS⟩) ((first | (go_at_call 45; refine (toN _ _ _ _ _ (hA.out _ (Below.refl _ _).drew).2.1 (by omega)).mono ?_; rintro e wy3 ⟨y3, rfl, hoy, hsy⟩; have hbS := (Below.refl (wz2).heap.size wz2).drew.trans (hsy.mono (by simp))) | (go_at_call 47; refine (eqN _ _ _ _ _ _ _ _ _ (hO_x1.out _ hbS).reads hoy.reads).mono ?_; rintro e wz3 ⟨rfl, hsz⟩; have hbT := hbS.trans (hsz.mono hbS.size); rw [show (n1 == n1 && (p1 == p1) && decide (l1 = l1)) = true by simp])))
    have hb_12 := hb_11.trans (hbT.mono hb_11.size)
    have hz_12 := hbT.size
    have A0_12 := hO_A0.out _ hbT
    have A1_12 := hO_A1.out _ hbT
    have x0_12 := hO_x0.out _ hbT
    have Xx0_12 := hO_Xx0.out _ hbT
    have x1_12 := hO_x1.out _ hbT
    have Xx1_12 := hO_Xx1.out _ hbT
    clear hA hO_A0 hO_A1 hO_x0 hO_Xx0 hO_x1 hO_Xx1 hb_11
    clear A0c0 A0c1 A0c2 A1c0 A1c1 A1c2 Xx0c0 Xx0c1 Xx0c2 Xx1c0 Xx1c1 Xx1c2
    have A0c0 := A0_12.cell 0 rfl
    have A0c1 := A0_12.cell 1 rfl
    have A0c2 := A0_12.cell 2 rfl
    have A1c0 := A1_12.cell 0 rfl
    have A1c1 := A1_12.cell 1 rfl
    have A1c2 := A1_12.cell 2 rfl
    have Xx0c0 := Xx0_12.cell 0 rfl
    have Xx0c1 := Xx0_12.cell 1 rfl
    have Xx0c2 := Xx0_12.cell 2 rfl
    have Xx1c0 := Xx1_12.cell 0 rfl
    have Xx1c1 := Xx1_12.cell 1 rfl
    have Xx1c2 := Xx1_12.cell 2 rfl
    clear hbT hbS hsz hsy hoy hK
    go_wp2_with fail
    go_ret
    exact ⟨rfl, hb_12⟩


end Go.Proofs.Ytoomkkeffejcdaa
