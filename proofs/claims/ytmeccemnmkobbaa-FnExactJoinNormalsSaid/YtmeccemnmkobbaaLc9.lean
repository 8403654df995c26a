/- Walk of the exact law on joined normal forms. -/
import Derived.Test.YtmeccemnmkobbaaLb1
import Derived.Test.YtmeccemnmkobbaaReq
namespace Go.Proofs.Ytmeccemnmkobbaa
open Go.RowKit

set_option maxRecDepth 100000 in
set_option maxHeartbeats 8000000 in
theorem walk_FnExactJoinNormals (n0 p0 : Int) (a0 : Value) (l0 : List (List Int)) (n1 p1 : Int) (a1 : Value) (l1 : List (List Int)) (W : World) (h0 : ReadsII W a0 l0) (h1 : ReadsII W a1 l1) :
    Calls Try.prog 10 #[.agg #[.int .i64 n0, .int .i64 p0, a0], .agg #[.int .i64 n1, .int .i64 p1, a1]] W fun e w' => e = .returned (.bool true) ∧ Below W.heap.size W w' := by
  have hs0 := h0.small
  have ht0 := tot_nonneg l0
  have hs1 := h1.small
  have ht1 := tot_nonneg l1
  by_cases hl0 : (1048576 : Int) - (tot l0 + l0.length) < 0
  case pos =>
    have hz0 := szNN_no hl0
    go_enter Try.func10, Try.ntmps10
    have hb_0 : Below W.heap.size W W := Below.refl _ _
    have hb_1 := hb_0.alloc hb_0.size (.cells #[.int .i64 n0, .int .i64 p0, a0] 24)
    have A0_1 := Bx.new W #[.int .i64 n0, .int .i64 p0, a0] 24
    have hz_1 := World.size_alloc W (.cells #[.int .i64 n0, .int .i64 p0, a0] 24)
    have hb_2 := hb_1.alloc hb_1.size (.cells #[.int .i64 n1, .int .i64 p1, a1] 24)
    have A0_2 := A0_1.alloc (.cells #[.int .i64 n1, .int .i64 p1, a1] 24)
    have A1_2 := Bx.new (W.alloc (.cells #[.int .i64 n0, .int .i64 p0, a0] 24)) #[.int .i64 n1, .int .i64 p1, a1] 24
    have hz_2 := World.size_alloc (W.alloc (.cells #[.int .i64 n0, .int .i64 p0, a0] 24)) (.cells #[.int .i64 n1, .int .i64 p1, a1] 24)
    clear A0_1 hb_1
    simp only [World.size_alloc] at A1_2
    have A0c0 := A0_2.cell 0 rfl
    have A0c1 := A0_2.cell 1 rfl
    have A0c2 := A0_2.cell 2 rfl
    have A1c0 := A1_2.cell 0 rfl
    have A1c1 := A1_2.cell 1 rfl
    have A1c2 := A1_2.cell 2 rfl
    go_wp2_with fail
    refine (szN' _ _ _ _ (1048576) _ (h0.below hb_2) (by omega) (by omega)).mono ?_
    rintro e w1 ⟨rfl, hs⟩
    have hb_3 := hb_2.trans (hs.mono hb_2.size)
    have hz_3 := hs.size
    have A0_3 := A0_2.below hs
    have A1_3 := A1_2.below hs
    clear hs A0_2 A1_2 hb_2
    clear A0c0 A0c1 A0c2 A1c0 A1c1 A1c2
    have A0c0 := A0_3.cell 0 rfl
    have A0c1 := A0_3.cell 1 rfl
    have A0c2 := A0_3.cell 2 rfl
    have A1c0 := A1_3.cell 0 rfl
    have A1c1 := A1_3.cell 1 rfl
    have A1c2 := A1_3.cell 2 rfl
    rw [hz0]
    go_wp2_with fail
    go_ret
    exact ⟨rfl, hb_3⟩
  by_cases hl1 : (1048576 : Int) - (tot l0 + l0.length) - (tot l1 + l1.length) < 0
  case pos =>
    have hz0 := szNN_yes hl0
    have hz1 := szNN_no hl1
    go_enter Try.func10, Try.ntmps10
    have hb_0 : Below W.heap.size W W := Below.refl _ _
    have hb_1 := hb_0.alloc hb_0.size (.cells #[.int .i64 n0, .int .i64 p0, a0] 24)
    have A0_1 := Bx.new W #[.int .i64 n0, .int .i64 p0, a0] 24
    have hz_1 := World.size_alloc W (.cells #[.int .i64 n0, .int .i64 p0, a0] 24)
    have hb_2 := hb_1.alloc hb_1.size (.cells #[.int .i64 n1, .int .i64 p1, a1] 24)
    have A0_2 := A0_1.alloc (.cells #[.int .i64 n1, .int .i64 p1, a1] 24)
    have A1_2 := Bx.new (W.alloc (.cells #[.int .i64 n0, .int .i64 p0, a0] 24)) #[.int .i64 n1, .int .i64 p1, a1] 24
    have hz_2 := World.size_alloc (W.alloc (.cells #[.int .i64 n0, .int .i64 p0, a0] 24)) (.cells #[.int .i64 n1, .int .i64 p1, a1] 24)
    clear A0_1 hb_1
    simp only [World.size_alloc] at A1_2
    have A0c0 := A0_2.cell 0 rfl
    have A0c1 := A0_2.cell 1 rfl
    have A0c2 := A0_2.cell 2 rfl
    have A1c0 := A1_2.cell 0 rfl
    have A1c1 := A1_2.cell 1 rfl
    have A1c2 := A1_2.cell 2 rfl
    go_wp2_with fail
    refine (szN' _ _ _ _ (1048576) _ (h0.below hb_2) (by omega) (by omega)).mono ?_
    rintro e w1 ⟨rfl, hs⟩
    have hb_3 := hb_2.trans (hs.mono hb_2.size)
    have hz_3 := hs.size
    have A0_3 := A0_2.below hs
    have A1_3 := A1_2.below hs
    clear hs A0_2 A1_2 hb_2
    clear A0c0 A0c1 A0c2 A1c0 A1c1 A1c2
    have A0c0 := A0_3.cell 0 rfl
    have A0c1 := A0_3.cell 1 rfl
    have A0c2 := A0_3.cell 2 rfl
    have A1c0 := A1_3.cell 0 rfl
    have A1c1 := A1_3.cell 1 rfl
    have A1c2 := A1_3.cell 2 rfl
    rw [hz0]
    go_wp2_with fail
    refine (szN' _ _ _ _ (1048576 - ((tot l0 + l0.length))) _ (h1.below hb_3) (by omega) (by omega)).mono ?_
    rintro e w2 ⟨rfl, hs⟩
    have hb_4 := hb_3.trans (hs.mono hb_3.size)
    have hz_4 := hs.size
    have A0_4 := A0_3.below hs
    have A1_4 := A1_3.below hs
    clear hs A0_3 A1_3 hb_3
    clear A0c0 A0c1 A0c2 A1c0 A1c1 A1c2
    have A0c0 := A0_4.cell 0 rfl
    have A0c1 := A0_4.cell 1 rfl
    have A0c2 := A0_4.cell 2 rfl
    have A1c0 := A1_4.cell 0 rfl
    have A1c1 := A1_4.cell 1 rfl
    have A1c2 := A1_4.cell 2 rfl
    rw [hz1]
    go_wp2_with fail
    go_ret
    exact ⟨rfl, hb_4⟩
  have hz0 := szNN_yes hl0
  have hz1 := szNN_yes hl1
  have hL : tot (lJN n0 p0 l0 n1 p1 l1) ≤ 1048576 := by
    have := lJN_tot n0 p0 l0 n1 p1 l1
    omega
  have hspec := hid (fun (v0 : Value) (v1 : Value) (w : World) (r0 : ReadsII w v0 l0) (r1 : ReadsII w v1 l1) => vjn_spec n0 p0 v0 l0 n1 p1 v1 l1 w r0 r1)
  have himpl := hid (fun (v0 : Value) (v1 : Value) (w : World) (r0 : ReadsII w v0 l0) (r1 : ReadsII w v1 l1) => vjn_impl n0 p0 v0 l0 n1 p1 v1 l1 w r0 r1)
  generalize lJN n0 p0 l0 n1 p1 l1 = L at *
  generalize nJN n0 p0 l0 n1 p1 l1 = N at *
  generalize pJN n0 p0 l0 n1 p1 l1 = P at *
  generalize codeJN n0 p0 l0 n1 p1 l1 = C at *
  have htL := tot_nonneg L
  have hcc : (C != C) = false := by simp
  go_enter Try.func10, Try.ntmps10
  have hb_0 : Below W.heap.size W W := Below.refl _ _
  have hb_1 := hb_0.alloc hb_0.size (.cells #[.int .i64 n0, .int .i64 p0, a0] 24)
  have A0_1 := Bx.new W #[.int .i64 n0, .int .i64 p0, a0] 24
  have hz_1 := World.size_alloc W (.cells #[.int .i64 n0, .int .i64 p0, a0] 24)
  have hb_2 := hb_1.alloc hb_1.size (.cells #[.int .i64 n1, .int .i64 p1, a1] 24)
  have A0_2 := A0_1.alloc (.cells #[.int .i64 n1, .int .i64 p1, a1] 24)
  have A1_2 := Bx.new (W.alloc (.cells #[.int .i64 n0, .int .i64 p0, a0] 24)) #[.int .i64 n1, .int .i64 p1, a1] 24
  have hz_2 := World.size_alloc (W.alloc (.cells #[.int .i64 n0, .int .i64 p0, a0] 24)) (.cells #[.int .i64 n1, .int .i64 p1, a1] 24)
  clear A0_1 hb_1
  simp only [World.size_alloc] at A1_2
  have A0c0 := A0_2.cell 0 rfl
  have A0c1 := A0_2.cell 1 rfl
  have A0c2 := A0_2.cell 2 rfl
  have A1c0 := A1_2.cell 0 rfl
  have A1c1 := A1_2.cell 1 rfl
  have A1c2 := A1_2.cell 2 rfl
  go_wp2_with fail
  refine (szN' _ _ _ _ (1048576) _ (h0.below hb_2) (by omega) (by omega)).mono ?_
  rintro e w1 ⟨rfl, hs⟩
  have hb_3 := hb_2.trans (hs.mono hb_2.size)
  have hz_3 := hs.size
  have A0_3 := A0_2.below hs
  have A1_3 := A1_2.below hs
  clear hs A0_2 A1_2 hb_2
  clear A0c0 A0c1 A0c2 A1c0 A1c1 A1c2
  have A0c0 := A0_3.cell 0 rfl
  have A0c1 := A0_3.cell 1 rfl
  have A0c2 := A0_3.cell 2 rfl
  have A1c0 := A1_3.cell 0 rfl
  have A1c1 := A1_3.cell 1 rfl
  have A1c2 := A1_3.cell 2 rfl
  rw [hz0]
  go_wp2_with fail
  refine (szN' _ _ _ _ (1048576 - ((tot l0 + l0.length))) _ (h1.below hb_3) (by omega) (by omega)).mono ?_
  rintro e w2 ⟨rfl, hs⟩
  have hb_4 := hb_3.trans (hs.mono hb_3.size)
  have hz_4 := hs.size
  have A0_4 := A0_3.below hs
  have A1_4 := A1_3.below hs
  clear hs A0_3 A1_3 hb_3
  clear A0c0 A0c1 A0c2 A1c0 A1c1 A1c2
  have A0c0 := A0_4.cell 0 rfl
  have A0c1 := A0_4.cell 1 rfl
  have A0c2 := A0_4.cell 2 rfl
  have A1c0 := A1_4.cell 0 rfl
  have A1c1 := A1_4.cell 1 rfl
  have A1c2 := A1_4.cell 2 rfl
  rw [hz1]
  go_wp2_with fail
  have hO_A0 := hid (fun (w' : World) (hw : Below (w2).heap.size w2 w') => A0_4.below hw)
  have hO_A1 := hid (fun (w' : World) (hw : Below (w2).heap.size w2 w') => A1_4.below hw)
  have hA := hid (fun (w' : World) (hw : Below (w2).heap.size w2 w') => (⟨h0.below (hb_4.trans (hw.mono hb_4.size)), h1.below (hb_4.trans (hw.mono hb_4.size)), trivial⟩ : ReadsII w' a0 l0 ∧ ReadsII w' a1 l1 ∧ True))
  have hK := hid (fun (w' : World) (hw : Below (w2).heap.size w2 w') => (⟨(A0_4.below hw).cell 0 rfl, (A0_4.below hw).cell 1 rfl, (A0_4.below hw).cell 2 rfl, (A1_4.below hw).cell 0 rfl, (A1_4.below hw).cell 1 rfl, (A1_4.below hw).cell 2 rfl, trivial⟩ : w'.cell? ⟨W.heap.size, 0, none⟩ = some (.int .i64 n0) ∧ w'.cell? ⟨W.heap.size, 1, none⟩ = some (.int .i64 p0) ∧ w'.cell? ⟨W.heap.size, 2, none⟩ = some (a0) ∧ w'.cell? ⟨W.heap.size + 1, 0, none⟩ = some (.int .i64 n1) ∧ w'.cell? ⟨W.heap.size + 1, 1, none⟩ = some (.int .i64 p1) ∧ w'.cell? ⟨W.heap.size + 1, 2, none⟩ = some (a1) ∧ True))
  clear A0_4 A1_4
  go_cut [6, 7] (fun b c wx => ∃ (g : Nat) (a : Option Addr) (n c' : Nat), b = .pointer (some ⟨g, 0, none⟩) ∧ c = .int .i64 C ∧ Below (w2).heap.size w2 wx ∧ (w2).heap.size ≤ g ∧ Bx wx g [.int .i64 N, .int .i64 P, .slice a n c'] ∧ OwnII wx (w2).heap.size wx.heap.size 32 2 (.slice a n c') L)
  case first =>
    go_region_held3 (fun w' => Below (w2).heap.size w2 w' ∧ w'.cell? ⟨W.heap.size, 0, none⟩ = some (.int .i64 n0) ∧ w'.cell? ⟨W.heap.size, 1, none⟩ = some (.int .i64 p0) ∧ w'.cell? ⟨W.heap.size, 2, none⟩ = some (a0) ∧ w'.cell? ⟨W.heap.size + 1, 0, none⟩ = some (.int .i64 n1) ∧ w'.cell? ⟨W.heap.size + 1, 1, none⟩ = some (.int .i64 p1) ∧ w'.cell? ⟨W.heap.size + 1, 2, none⟩ = some (a1) ∧ True) (first | exact ⟨(Below.refl _ _).drew, hK.out _ (Below.refl _ _).drew⟩ | exact ⟨((Below.refl _ _).drew.alloc (by simp) _), hK.out _ ((Below.refl _ _).drew.alloc (by simp) _)⟩ | exact ⟨hbT, hK.out _ hbT⟩ | exact ⟨(hbT.alloc hbT.size _), hK.out _ (hbT.alloc hbT.size _)⟩ | exact ⟨hba, hK.out _ hba⟩ | exact ⟨(hba.alloc hba.size _), hK.out _ (hba.alloc hba.size _)⟩ | exact ⟨hbb, hK.out _ hbb⟩ | exact ⟨(hbb.alloc hbb.size _), hK.out _ (hbb.alloc hbb.size _)⟩ | exact ⟨(((hbT.setCell (by first | exact hba.size | exact hbb.size | exact hbT.size | simp) _).setCell (by first | exact hba.size | exact hbb.size | exact hbT.size | simp) _).setCell (by first | exact hba.size | exact hbb.size | exact hbT.size | simp) _), hK.out _ (((hbT.setCell (by first | exact hba.size | exact hbb.size | exact hbT.size | simp) _).setCell (by first | exact hba.size | exact hbb.size | exact hbT.size | simp) _).setCell (by first | exact hba.size | exact hbb.size | exact hbT.size | simp) _)⟩) ((first | (go_at_call_of 15 a0; refine (toN _ _ _ _ _ (by first | exact (hA.out _ (Below.refl _ _).drew).1 | exact (hA.out _ ((Below.refl _ _).drew.alloc (by simp) _)).1 | exact (hA.out _ hbb).1 | exact (hA.out _ (hbb.alloc hbb.size _)).1) (by omega)).mono ?_; rintro e wa1 ⟨c0, rfl, hoa, hsa⟩; have hba : Below (w2).heap.size w2 wa1 := by first | exact hbb.trans (hsa.mono hbb.size) | exact (hbb.alloc hbb.size _).trans (hsa.mono (hbb.alloc hbb.size _).size) | exact (Below.refl (w2).heap.size w2).drew.trans (hsa.mono (by simp)) | exact ((Below.refl (w2).heap.size w2).drew.alloc (by simp) _).trans (hsa.mono (by simp))) | (go_at_call_of 15 a1; refine (toN _ _ _ _ _ (by first | exact (hA.out _ (Below.refl _ _).drew).2.1 | exact (hA.out _ ((Below.refl _ _).drew.alloc (by simp) _)).2.1 | exact (hA.out _ hba).2.1 | exact (hA.out _ (hba.alloc hba.size _)).2.1) (by omega)).mono ?_; rintro e wb1 ⟨c1, rfl, hob, hsb⟩; have hbb : Below (w2).heap.size w2 wb1 := by first | exact hba.trans (hsb.mono hba.size) | exact (hba.alloc hba.size _).trans (hsb.mono (hba.alloc hba.size _).size) | exact (Below.refl (w2).heap.size w2).drew.trans (hsb.mono (by simp)) | exact ((Below.refl (w2).heap.size w2).drew.alloc (by simp) _).trans (hsb.mono (by simp))) | ((go_at_call 49; refine (hspec.out _ _ _ (by first | exact hoa.reads | exact (hoa.below hsb).reads | exact ((hoa.alloc _).below hsb).reads | exact (hoa.alloc _).reads | exact ((hoa.below hsb).alloc _).reads) (by first | exact hob.reads | exact (hob.below hsa).reads | exact ((hob.alloc _).below hsa).reads | exact (hob.alloc _).reads | exact ((hob.below hsa).alloc _).reads)).mono ?_; rintro e wz1 ⟨v, rfl, hoz, hsz⟩; obtain ⟨va, vn, vc, rfl⟩ := hoz.form; have hbT : Below (w2).heap.size w2 wz1 := by first | exact hba.trans (hsz.mono hba.size) | exact (hba.alloc hba.size _).trans (hsz.mono (hba.alloc hba.size _).size) | exact hbb.trans (hsz.mono hbb.size) | exact (hbb.alloc hbb.size _).trans (hsz.mono (hbb.alloc hbb.size _).size)); (first | (have hBX := (Bx.new _ _ _).below hsz; have X0 := hBX.cell 0 rfl; have X1 := hBX.cell 1 rfl; have X2 := hBX.cell 2 rfl; have Xf0 := hBX.frozen 0; have Xf1 := hBX.frozen 1; have Xf2 := hBX.frozen 2) | (have hBX := ((Bx.new _ _ _).below hsb).below hsz; have X0 := hBX.cell 0 rfl; have X1 := hBX.cell 1 rfl; have X2 := hBX.cell 2 rfl; have Xf0 := hBX.frozen 0; have Xf1 := hBX.frozen 1; have Xf2 := hBX.frozen 2) | (have hBX := ((Bx.new _ _ _).below hsa).below hsz; have X0 := hBX.cell 0 rfl; have X1 := hBX.cell 1 rfl; have X2 := hBX.cell 2 rfl; have Xf0 := hBX.frozen 0; have Xf1 := hBX.frozen 1; have Xf2 := hBX.frozen 2) | (have hBX := (((Bx.new _ _ _).drew.below hsa).below hsb).below hsz; have X0 := hBX.cell 0 rfl; have X1 := hBX.cell 1 rfl; have X2 := hBX.cell 2 rfl; have Xf0 := hBX.frozen 0; have Xf1 := hBX.frozen 1; have Xf2 := hBX.frozen 2) | (have hBX := (((Bx.new _ _ _).drew.below hsb).below hsa).below hsz; have X0 := hBX.cell 0 rfl; have X1 := hBX.cell 1 rfl; have X2 := hBX.cell 2 rfl; have Xf0 := hBX.frozen 0; have Xf1 := hBX.frozen 1; have Xf2 := hBX.frozen 2) | skip))))
    all_goals
      have hlo : (w2).heap.size ≤ _ := hba.size
      have hlb : (w2).heap.size ≤ _ := hbb.size
      have hoz' := hoz
      replace hoz' := hoz'.lower (lo' := (w2).heap.size) (by first | exact hba.size | exact hbb.size | exact (hba.alloc hba.size _).size | exact (hbb.alloc hbb.size _).size)
      go_wp2_with fail
      go_meet
      case rel =>
        first
          | exact ⟨_, _, _, _, rfl, rfl, hbT.alloc hbT.size _, hbT.size, Bx.new _ _ _, (hoz'.alloc _).topped (by simp)⟩
          | exact ⟨_, _, _, _, rfl, rfl, (((hbT.setCell (by first | exact hba.size | exact hbb.size | exact hbT.size | simp) _).setCell (by first | exact hba.size | exact hbb.size | exact hbT.size | simp) _).setCell (by first | exact hba.size | exact hbb.size | exact hbT.size | simp) _), (by first | exact hba.size | exact hbb.size | exact hbT.size | simp), (((hBX.set 0 (.int .i64 N)).set 1 (.int .i64 P)).set 2 (.slice va vn vc)), ((((hoz.setAt (by first | exact Nat.lt_of_lt_of_le (Bx.lt (Bx.new _ _ _)) (Nat.le_refl _) | exact Nat.lt_of_lt_of_le (Bx.lt (Bx.new _ _ _)) hsb.size | exact Nat.lt_of_lt_of_le (Bx.lt (Bx.new _ _ _)) hsa.size | exact Nat.lt_of_lt_of_le (Bx.lt (Bx.new _ _ _)) (Nat.le_trans hsa.size hsb.size) | exact Nat.lt_of_lt_of_le (Bx.lt (Bx.new _ _ _)) (Nat.le_trans hsb.size hsa.size)) 0 _).setAt (by first | exact Nat.lt_of_lt_of_le (Bx.lt (Bx.new _ _ _)) (Nat.le_refl _) | exact Nat.lt_of_lt_of_le (Bx.lt (Bx.new _ _ _)) hsb.size | exact Nat.lt_of_lt_of_le (Bx.lt (Bx.new _ _ _)) hsa.size | exact Nat.lt_of_lt_of_le (Bx.lt (Bx.new _ _ _)) (Nat.le_trans hsa.size hsb.size) | exact Nat.lt_of_lt_of_le (Bx.lt (Bx.new _ _ _)) (Nat.le_trans hsb.size hsa.size)) 1 _).setAt (by first | exact Nat.lt_of_lt_of_le (Bx.lt (Bx.new _ _ _)) (Nat.le_refl _) | exact Nat.lt_of_lt_of_le (Bx.lt (Bx.new _ _ _)) hsb.size | exact Nat.lt_of_lt_of_le (Bx.lt (Bx.new _ _ _)) hsa.size | exact Nat.lt_of_lt_of_le (Bx.lt (Bx.new _ _ _)) (Nat.le_trans hsa.size hsb.size) | exact Nat.lt_of_lt_of_le (Bx.lt (Bx.new _ _ _)) (Nat.le_trans hsb.size hsa.size)) 2 _)).lowered (by first | exact hba.size | exact hbb.size | exact (hba.alloc hba.size _).size | exact (hbb.alloc hbb.size _).size)⟩
  case rest =>
    clear hK
    obtain ⟨gv, va, vn, vc, rfl, rfl, hbT, hgv, hBxv, hOwv⟩ := hcut
    have hgtv := hBxv.lt
    have hb_5 := hb_4.trans (hbT.mono hb_4.size)
    have hz_5 := hbT.size
    have A0_5 := hO_A0.out _ hbT
    have A1_5 := hO_A1.out _ hbT
    clear hA hO_A0 hO_A1 hb_4
    clear A0c0 A0c1 A0c2 A1c0 A1c1 A1c2
    have A0c0 := A0_5.cell 0 rfl
    have A0c1 := A0_5.cell 1 rfl
    have A0c2 := A0_5.cell 2 rfl
    have A1c0 := A1_5.cell 0 rfl
    have A1c1 := A1_5.cell 1 rfl
    have A1c2 := A1_5.cell 2 rfl
    have v_5 := hOwv
    have Xv_5 := hBxv
    clear hOwv hBxv
    clear hbT
    clear A0c0 A0c1 A0c2 A1c0 A1c1 A1c2
    have A0c0 := A0_5.cell 0 rfl
    have A0c1 := A0_5.cell 1 rfl
    have A0c2 := A0_5.cell 2 rfl
    have A1c0 := A1_5.cell 0 rfl
    have A1c1 := A1_5.cell 1 rfl
    have A1c2 := A1_5.cell 2 rfl
    have Xvc0 := Xv_5.cell 0 rfl
    have Xvc1 := Xv_5.cell 1 rfl
    have Xvc2 := Xv_5.cell 2 rfl
    go_wp2_with fail
    refine (toN _ _ _ _ _ (h0.below hb_5) (by omega)).mono ?_
    rintro e w3 ⟨x0, rfl, ho, hs⟩
    have hb_6 := hb_5.trans (hs.mono hb_5.size)
    have hz_6 := hs.size
    have A0_6 := A0_5.below hs
    have A1_6 := A1_5.below hs
    have v_6 := v_5.below hs
    have Xv_6 := Xv_5.below hs
    obtain ⟨x0a, x0n, x0c, rfl⟩ := ho.form3
    have x0_6 := ho
    clear ho
    clear hs A0_5 A1_5 v_5 Xv_5 hb_5
    clear A0c0 A0c1 A0c2 A1c0 A1c1 A1c2 Xvc0 Xvc1 Xvc2
    have A0c0 := A0_6.cell 0 rfl
    have A0c1 := A0_6.cell 1 rfl
    have A0c2 := A0_6.cell 2 rfl
    have A1c0 := A1_6.cell 0 rfl
    have A1c1 := A1_6.cell 1 rfl
    have A1c2 := A1_6.cell 2 rfl
    have Xvc0 := Xv_6.cell 0 rfl
    have Xvc1 := Xv_6.cell 1 rfl
    have Xvc2 := Xv_6.cell 2 rfl
    have hb_7 := hb_6.alloc hb_6.size (.cells #[.int .i64 n0, .int .i64 p0, (.slice x0a x0n x0c)] 27)
    have A0_7 := A0_6.alloc (.cells #[.int .i64 n0, .int .i64 p0, (.slice x0a x0n x0c)] 27)
    have A1_7 := A1_6.alloc (.cells #[.int .i64 n0, .int .i64 p0, (.slice x0a x0n x0c)] 27)
    have v_7 := v_6.alloc (.cells #[.int .i64 n0, .int .i64 p0, (.slice x0a x0n x0c)] 27)
    have Xv_7 := Xv_6.alloc (.cells #[.int .i64 n0, .int .i64 p0, (.slice x0a x0n x0c)] 27)
    have x0_7 := x0_6.alloc (.cells #[.int .i64 n0, .int .i64 p0, (.slice x0a x0n x0c)] 27)
    have Xx0_7 := Bx.new w3 #[.int .i64 n0, .int .i64 p0, (.slice x0a x0n x0c)] 27
    have hz_7 := World.size_alloc w3 (.cells #[.int .i64 n0, .int .i64 p0, (.slice x0a x0n x0c)] 27)
    clear A0_6 A1_6 v_6 Xv_6 x0_6 hb_6
    clear A0c0 A0c1 A0c2 A1c0 A1c1 A1c2 Xvc0 Xvc1 Xvc2
    have A0c0 := A0_7.cell 0 rfl
    have A0c1 := A0_7.cell 1 rfl
    have A0c2 := A0_7.cell 2 rfl
    have A1c0 := A1_7.cell 0 rfl
    have A1c1 := A1_7.cell 1 rfl
    have A1c2 := A1_7.cell 2 rfl
    have Xvc0 := Xv_7.cell 0 rfl
    have Xvc1 := Xv_7.cell 1 rfl
    have Xvc2 := Xv_7.cell 2 rfl
    have Xx0c0 := Xx0_7.cell 0 rfl
    have Xx0c1 := Xx0_7.cell 1 rfl
    have Xx0c2 := Xx0_7.cell 2 rfl
    go_wp2_with fail
    refine (toN _ _ _ _ _ (h1.below hb_7) (by omega)).mono ?_
    rintro e w4 ⟨x1, rfl, ho, hs⟩
    have hb_8 := hb_7.trans (hs.mono hb_7.size)
    have hz_8 := hs.size
    have A0_8 := A0_7.below hs
    have A1_8 := A1_7.below hs
    have v_8 := v_7.below hs
    have Xv_8 := Xv_7.below hs
    have x0_8 := x0_7.below hs
    have Xx0_8 := Xx0_7.below hs
    obtain ⟨x1a, x1n, x1c, rfl⟩ := ho.form3
    have x1_8 := ho
    clear ho
    clear hs A0_7 A1_7 v_7 Xv_7 x0_7 Xx0_7 hb_7
    clear A0c0 A0c1 A0c2 A1c0 A1c1 A1c2 Xvc0 Xvc1 Xvc2 Xx0c0 Xx0c1 Xx0c2
    have A0c0 := A0_8.cell 0 rfl
    have A0c1 := A0_8.cell 1 rfl
    have A0c2 := A0_8.cell 2 rfl
    have A1c0 := A1_8.cell 0 rfl
    have A1c1 := A1_8.cell 1 rfl
    have A1c2 := A1_8.cell 2 rfl
    have Xvc0 := Xv_8.cell 0 rfl
    have Xvc1 := Xv_8.cell 1 rfl
    have Xvc2 := Xv_8.cell 2 rfl
    have Xx0c0 := Xx0_8.cell 0 rfl
    have Xx0c1 := Xx0_8.cell 1 rfl
    have Xx0c2 := Xx0_8.cell 2 rfl
    have hb_9 := hb_8.alloc hb_8.size (.cells #[.int .i64 n1, .int .i64 p1, (.slice x1a x1n x1c)] 27)
    have A0_9 := A0_8.alloc (.cells #[.int .i64 n1, .int .i64 p1, (.slice x1a x1n x1c)] 27)
    have A1_9 := A1_8.alloc (.cells #[.int .i64 n1, .int .i64 p1, (.slice x1a x1n x1c)] 27)
    have v_9 := v_8.alloc (.cells #[.int .i64 n1, .int .i64 p1, (.slice x1a x1n x1c)] 27)
    have Xv_9 := Xv_8.alloc (.cells #[.int .i64 n1, .int .i64 p1, (.slice x1a x1n x1c)] 27)
    have x0_9 := x0_8.alloc (.cells #[.int .i64 n1, .int .i64 p1, (.slice x1a x1n x1c)] 27)
    have Xx0_9 := Xx0_8.alloc (.cells #[.int .i64 n1, .int .i64 p1, (.slice x1a x1n x1c)] 27)
    have x1_9 := x1_8.alloc (.cells #[.int .i64 n1, .int .i64 p1, (.slice x1a x1n x1c)] 27)
    have Xx1_9 := Bx.new w4 #[.int .i64 n1, .int .i64 p1, (.slice x1a x1n x1c)] 27
    have hz_9 := World.size_alloc w4 (.cells #[.int .i64 n1, .int .i64 p1, (.slice x1a x1n x1c)] 27)
    clear A0_8 A1_8 v_8 Xv_8 x0_8 Xx0_8 x1_8 hb_8
    clear A0c0 A0c1 A0c2 A1c0 A1c1 A1c2 Xvc0 Xvc1 Xvc2 Xx0c0 Xx0c1 Xx0c2
    have A0c0 := A0_9.cell 0 rfl
    have A0c1 := A0_9.cell 1 rfl
    have A0c2 := A0_9.cell 2 rfl
    have A1c0 := A1_9.cell 0 rfl
    have A1c1 := A1_9.cell 1 rfl
    have A1c2 := A1_9.cell 2 rfl
    have Xvc0 := Xv_9.cell 0 rfl
    have Xvc1 := Xv_9.cell 1 rfl
    have Xvc2 := Xv_9.cell 2 rfl
    have Xx0c0 := Xx0_9.cell 0 rfl
    have Xx0c1 := Xx0_9.cell 1 rfl
    have Xx0c2 := Xx0_9.cell 2 rfl
    have Xx1c0 := Xx1_9.cell 0 rfl
    have Xx1c1 := Xx1_9.cell 1 rfl
    have Xx1c2 := Xx1_9.cell 2 rfl
    go_wp2_with fail
    refine (himpl.out _ _ _ x0_9.reads x1_9.reads).mono ?_
    rintro e w5 ⟨g, rfl, ho, hs⟩
    have hb_10 := hb_9.trans (hs.mono hb_9.size)
    have hz_10 := hs.size
    have A0_10 := A0_9.below hs
    have A1_10 := A1_9.below hs
    have v_10 := v_9.below hs
    have Xv_10 := Xv_9.below hs
    have x0_10 := x0_9.below hs
    have Xx0_10 := Xx0_9.below hs
    have x1_10 := x1_9.below hs
    have Xx1_10 := Xx1_9.below hs
    obtain ⟨ga, gn, gc, rfl⟩ := ho.form3
    have g_10 := ho
    clear ho
    clear hs A0_9 A1_9 v_9 Xv_9 x0_9 Xx0_9 x1_9 Xx1_9 hb_9
    clear A0c0 A0c1 A0c2 A1c0 A1c1 A1c2 Xvc0 Xvc1 Xvc2 Xx0c0 Xx0c1 Xx0c2 Xx1c0 Xx1c1 Xx1c2
    have A0c0 := A0_10.cell 0 rfl
    have A0c1 := A0_10.cell 1 rfl
    have A0c2 := A0_10.cell 2 rfl
    have A1c0 := A1_10.cell 0 rfl
    have A1c1 := A1_10.cell 1 rfl
    have A1c2 := A1_10.cell 2 rfl
    have Xvc0 := Xv_10.cell 0 rfl
    have Xvc1 := Xv_10.cell 1 rfl
    have Xvc2 := Xv_10.cell 2 rfl
    have Xx0c0 := Xx0_10.cell 0 rfl
    have Xx0c1 := Xx0_10.cell 1 rfl
    have Xx0c2 := Xx0_10.cell 2 rfl
    have Xx1c0 := Xx1_10.cell 0 rfl
    have Xx1c1 := Xx1_10.cell 1 rfl
    have Xx1c2 := Xx1_10.cell 2 rfl
    have hb_11 := hb_10.alloc hb_10.size (.cells #[.int .i64 N, .int .i64 P, (.slice ga gn gc)] 27)
    have A0_11 := A0_10.alloc (.cells #[.int .i64 N, .int .i64 P, (.slice ga gn gc)] 27)
    have A1_11 := A1_10.alloc (.cells #[.int .i64 N, .int .i64 P, (.slice ga gn gc)] 27)
    have v_11 := v_10.alloc (.cells #[.int .i64 N, .int .i64 P, (.slice ga gn gc)] 27)
    have Xv_11 := Xv_10.alloc (.cells #[.int .i64 N, .int .i64 P, (.slice ga gn gc)] 27)
    have x0_11 := x0_10.alloc (.cells #[.int .i64 N, .int .i64 P, (.slice ga gn gc)] 27)
    have Xx0_11 := Xx0_10.alloc (.cells #[.int .i64 N, .int .i64 P, (.slice ga gn gc)] 27)
    have x1_11 := x1_10.alloc (.cells #[.int .i64 N, .int .i64 P, (.slice ga gn gc)] 27)
    have Xx1_11 := Xx1_10.alloc (.cells #[.int .i64 N, .int .i64 P, (.slice ga gn gc)] 27)
    have g_11 := g_10.alloc (.cells #[.int .i64 N, .int .i64 P, (.slice ga gn gc)] 27)
    have Xg_11 := Bx.new w5 #[.int .i64 N, .int .i64 P, (.slice ga gn gc)] 27
    have hz_11 := World.size_alloc w5 (.cells #[.int .i64 N, .int .i64 P, (.slice ga gn gc)] 27)
    clear A0_10 A1_10 v_10 Xv_10 x0_10 Xx0_10 x1_10 Xx1_10 g_10 hb_10
    clear A0c0 A0c1 A0c2 A1c0 A1c1 A1c2 Xvc0 Xvc1 Xvc2 Xx0c0 Xx0c1 Xx0c2 Xx1c0 Xx1c1 Xx1c2
    have A0c0 := A0_11.cell 0 rfl
    have A0c1 := A0_11.cell 1 rfl
    have A0c2 := A0_11.cell 2 rfl
    have A1c0 := A1_11.cell 0 rfl
    have A1c1 := A1_11.cell 1 rfl
    have A1c2 := A1_11.cell 2 rfl
    have Xvc0 := Xv_11.cell 0 rfl
    have Xvc1 := Xv_11.cell 1 rfl
    have Xvc2 := Xv_11.cell 2 rfl
    have Xx0c0 := Xx0_11.cell 0 rfl
    have Xx0c1 := Xx0_11.cell 1 rfl
    have Xx0c2 := Xx0_11.cell 2 rfl
    have Xx1c0 := Xx1_11.cell 0 rfl
    have Xx1c1 := Xx1_11.cell 1 rfl
    have Xx1c2 := Xx1_11.cell 2 rfl
    have Xgc0 := Xg_11.cell 0 rfl
    have Xgc1 := Xg_11.cell 1 rfl
    have Xgc2 := Xg_11.cell 2 rfl
    go_wp2_with fail
    refine (eqN _ _ _ _ _ _ _ _ _ g_11.reads v_11.reads).mono ?_
    rintro e w6 ⟨rfl, hs⟩
    have hb_12 := hb_11.trans (hs.mono hb_11.size)
    have hz_12 := hs.size
    have A0_12 := A0_11.below hs
    have A1_12 := A1_11.below hs
    have v_12 := v_11.below hs
    have Xv_12 := Xv_11.below hs
    have x0_12 := x0_11.below hs
    have Xx0_12 := Xx0_11.below hs
    have x1_12 := x1_11.below hs
    have Xx1_12 := Xx1_11.below hs
    have g_12 := g_11.below hs
    have Xg_12 := Xg_11.below hs
    clear hs A0_11 A1_11 v_11 Xv_11 x0_11 Xx0_11 x1_11 Xx1_11 g_11 Xg_11 hb_11
    clear A0c0 A0c1 A0c2 A1c0 A1c1 A1c2 Xvc0 Xvc1 Xvc2 Xx0c0 Xx0c1 Xx0c2 Xx1c0 Xx1c1 Xx1c2 Xgc0 Xgc1 Xgc2
    have A0c0 := A0_12.cell 0 rfl
    have A0c1 := A0_12.cell 1 rfl
    have A0c2 := A0_12.cell 2 rfl
    have A1c0 := A1_12.cell 0 rfl
    have A1c1 := A1_12.cell 1 rfl
    have A1c2 := A1_12.cell 2 rfl
    have Xvc0 := Xv_12.cell 0 rfl
    have Xvc1 := Xv_12.cell 1 rfl
    have Xvc2 := Xv_12.cell 2 rfl
    have Xx0c0 := Xx0_12.cell 0 rfl
    have Xx0c1 := Xx0_12.cell 1 rfl
    have Xx0c2 := Xx0_12.cell 2 rfl
    have Xx1c0 := Xx1_12.cell 0 rfl
    have Xx1c1 := Xx1_12.cell 1 rfl
    have Xx1c2 := Xx1_12.cell 2 rfl
    have Xgc0 := Xg_12.cell 0 rfl
    have Xgc1 := Xg_12.cell 1 rfl
    have Xgc2 := Xg_12.cell 2 rfl
    rw [show (N == N && (P == P) && decide (L = L)) = true by simp]
    go_wp2_with fail
    have hO_A0 := hid (fun (w' : World) (hw : Below (w6).heap.size w6 w') => A0_12.below hw)
    have hO_A1 := hid (fun (w' : World) (hw : Below (w6).heap.size w6 w') => A1_12.below hw)
    have hO_v := hid (fun (w' : World) (hw : Below (w6).heap.size w6 w') => v_12.below hw)
    have hO_Xv := hid (fun (w' : World) (hw : Below (w6).heap.size w6 w') => Xv_12.below hw)
    have hO_x0 := hid (fun (w' : World) (hw : Below (w6).heap.size w6 w') => x0_12.below hw)
    have hO_Xx0 := hid (fun (w' : World) (hw : Below (w6).heap.size w6 w') => Xx0_12.below hw)
    have hO_x1 := hid (fun (w' : World) (hw : Below (w6).heap.size w6 w') => x1_12.below hw)
    have hO_Xx1 := hid (fun (w' : World) (hw : Below (w6).heap.size w6 w') => Xx1_12.below hw)
    have hO_g := hid (fun (w' : World) (hw : Below (w6).heap.size w6 w') => g_12.below hw)
    have hO_Xg := hid (fun (w' : World) (hw : Below (w6).heap.size w6 w') => Xg_12.below hw)
    have hA := hid (fun (w' : World) (hw : Below (w6).heap.size w6 w') => (⟨h0.below (hb_12.trans (hw.mono hb_12.size)), h1.below (hb_12.trans (hw.mono hb_12.size)), trivial⟩ : ReadsII w' a0 l0 ∧ ReadsII w' a1 l1 ∧ True))
    have hK := hid (fun (w' : World) (hw : Below (w6).heap.size w6 w') => (⟨(A0_12.below hw).cell 0 rfl, (A0_12.below hw).cell 1 rfl, (A0_12.below hw).cell 2 rfl, (Xx0_12.below hw).cell 0 rfl, (Xx0_12.below hw).cell 1 rfl, (Xx0_12.below hw).cell 2 rfl, trivial⟩ : w'.cell? ⟨W.heap.size, 0, none⟩ = some (.int .i64 n0) ∧ w'.cell? ⟨W.heap.size, 1, none⟩ = some (.int .i64 p0) ∧ w'.cell? ⟨W.heap.size, 2, none⟩ = some (a0) ∧ w'.cell? ⟨w3.heap.size, 0, none⟩ = some (.int .i64 n0) ∧ w'.cell? ⟨w3.heap.size, 1, none⟩ = some (.int .i64 p0) ∧ w'.cell? ⟨w3.heap.size, 2, none⟩ = some ((.slice x0a x0n x0c)) ∧ True))
    clear A0_12 A1_12 v_12 Xv_12 x0_12 Xx0_12 x1_12 Xx1_12 g_12 Xg_12
    go_region_held3 (fun w' => Below (w6).heap.size w6 w' ∧ w'.cell? ⟨W.heap.size, 0, none⟩ = some (.int .i64 n0) ∧ w'.cell? ⟨W.heap.size, 1, none⟩ = some (.int .i64 p0) ∧ w'.cell? ⟨W.heap.size, 2, none⟩ = some (a0) ∧ w'.cell? ⟨w3.heap.size, 0, none⟩ = some (.int .i64 n0) ∧ w'.cell? ⟨w3.heap.size, 1, none⟩ = some (.int .i64 p0) ∧ w'.cell? ⟨w3.heap.size, 2, none⟩ = some ((.slice x0a x0n x0c)) ∧ True) (first | exact ⟨(Below.refl _ _).drew, hK.out _ (Below.refl _ _).drew⟩ | exact ⟨hbT, hK.out _ hbT⟩ | exact ⟨hbS, hK.out _ hbS⟩) ((first | (go_at_call 15; refine (toN _ _ _ _ _ (hA.out _ (Below.refl _ _).drew).1 (by omega)).mono ?_; rintro e wy2 ⟨y2, rfl, hoy, hsy⟩; have hbS := (Below.refl (w6).heap.size w6).drew.trans (hsy.mono (by simp))) | (go_at_call 17; refine (eqN _ _ _ _ _ _ _ _ _ (hO_x0.out _ hbS).reads hoy.reads).mono ?_; rintro e wz2 ⟨rfl, hsz⟩; have hbT := hbS.trans (hsz.mono hbS.size); rw [show (n0 == n0 && (p0 == p0) && decide (l0 = l0)) = true by simp])))
    have hb_13 := hb_12.trans (hbT.mono hb_12.size)
    have hz_13 := hbT.size
    have A0_13 := hO_A0.out _ hbT
    have A1_13 := hO_A1.out _ hbT
    have v_13 := hO_v.out _ hbT
    have Xv_13 := hO_Xv.out _ hbT
    have x0_13 := hO_x0.out _ hbT
    have Xx0_13 := hO_Xx0.out _ hbT
    have x1_13 := hO_x1.out _ hbT
    have Xx1_13 := hO_Xx1.out _ hbT
    have g_13 := hO_g.out _ hbT
    have Xg_13 := hO_Xg.out _ hbT
    clear hA hO_A0 hO_A1 hO_v hO_Xv hO_x0 hO_Xx0 hO_x1 hO_Xx1 hO_g hO_Xg hb_12
    clear A0c0 A0c1 A0c2 A1c0 A1c1 A1c2 Xvc0 Xvc1 Xvc2 Xx0c0 Xx0c1 Xx0c2 Xx1c0 Xx1c1 Xx1c2 Xgc0 Xgc1 Xgc2
    have A0c0 := A0_13.cell 0 rfl
    have A0c1 := A0_13.cell 1 rfl
    have A0c2 := A0_13.cell 2 rfl
    have A1c0 := A1_13.cell 0 rfl
    have A1c1 := A1_13.cell 1 rfl
    have A1c2 := A1_13.cell 2 rfl
    have Xvc0 := Xv_13.cell 0 rfl
    have Xvc1 := Xv_13.cell 1 rfl
    have Xvc2 := Xv_13.cell 2 rfl
    have Xx0c0 := Xx0_13.cell 0 rfl
    have Xx0c1 := Xx0_13.cell 1 rfl
    have Xx0c2 := Xx0_13.cell 2 rfl
    have Xx1c0 := Xx1_13.cell 0 rfl
    have Xx1c1 := Xx1_13.cell 1 rfl
    have Xx1c2 := Xx1_13.cell 2 rfl
    have Xgc0 := Xg_13.cell 0 rfl
    have Xgc1 := Xg_13.cell 1 rfl
    have Xgc2 := Xg_13.cell 2 rfl
    clear hbT hbS hsz hsy hoy hK
    go_wp2_with fail
    have hO_A0 := hid (fun (w' : World) (hw : Below (wz2).heap.size wz2 w') => A0_13.below hw)
    have hO_A1 := hid (fun (w' : World) (hw : Below (wz2).heap.size wz2 w') => A1_13.below hw)
    have hO_v := hid (fun (w' : World) (hw : Below (wz2).heap.size wz2 w') => v_13.below hw)
    have hO_Xv := hid (fun (w' : World) (hw : Below (wz2).heap.size wz2 w') => Xv_13.below hw)
    have hO_x0 := hid (fun (w' : World) (hw : Below (wz2).heap.size wz2 w') => x0_13.below hw)
    have hO_Xx0 := hid (fun (w' : World) (hw : Below (wz2).heap.size wz2 w') => Xx0_13.below hw)
    have hO_x1 := hid (fun (w' : World) (hw : Below (wz2).heap.size wz2 w') => x1_13.below hw)
    have hO_Xx1 := hid (fun (w' : World) (hw : Below (wz2).heap.size wz2 w') => Xx1_13.below hw)
    have hO_g := hid (fun (w' : World) (hw : Below (wz2).heap.size wz2 w') => g_13.below hw)
    have hO_Xg := hid (fun (w' : World) (hw : Below (wz2).heap.size wz2 w') => Xg_13.below hw)
    have hA := hid (fun (w' : World) (hw : Below (wz2).heap.size wz2 w') => (⟨h0.below (hb_13.trans (hw.mono hb_13.size)), h1.below (hb_13.trans (hw.mono hb_13.size)), trivial⟩ : ReadsII w' a0 l0 ∧ ReadsII w' a1 l1 ∧ True))
    have hK := hid (fun (w' : World) (hw : Below (wz2).heap.size wz2 w') => (⟨(A1_13.below hw).cell 0 rfl, (A1_13.below hw).cell 1 rfl, (A1_13.below hw).cell 2 rfl, (Xx1_13.below hw).cell 0 rfl, (Xx1_13.below hw).cell 1 rfl, (Xx1_13.below hw).cell 2 rfl, trivial⟩ : w'.cell? ⟨W.heap.size + 1, 0, none⟩ = some (.int .i64 n1) ∧ w'.cell? ⟨W.heap.size + 1, 1, none⟩ = some (.int .i64 p1) ∧ w'.cell? ⟨W.heap.size + 1, 2, none⟩ = some (a1) ∧ w'.cell? ⟨w4.heap.size, 0, none⟩ = some (.int .i64 n1) ∧ w'.cell? ⟨w4.heap.size, 1, none⟩ = some (.int .i64 p1) ∧ w'.cell? ⟨w4.heap.size, 2, none⟩ = some ((.slice x1a x1n x1c)) ∧ True))
    clear A0_13 A1_13 v_13 Xv_13 x0_13 Xx0_13 x1_13 Xx1_13 g_13 Xg_13
    go_region_held3 (fun w' => Below (wz2).heap.size wz2 w' ∧ w'.cell? ⟨W.heap.size + 1, 0, none⟩ = some (.int .i64 n1) ∧ w'.cell? ⟨W.heap.size + 1, 1, none⟩ = some (.int .i64 p1) ∧ w'.cell? ⟨W.heap.size + 1, 2, none⟩ = some (a1) ∧ w'.cell? ⟨w4.heap.size, 0, none⟩ = some (.int .i64 n1) ∧ w'.cell? ⟨w4.heap.size, 1, none⟩ = some (.int .i64 p1) ∧ w'.cell? ⟨w4.heap.size, 2, none⟩ = some ((.slice x1a x1n x1c)) ∧ True) (first | exact ⟨(Below.refl _ _).drew, hK.out _ (Below.refl _ _).drew⟩ | exact ⟨hbT, hK.out _ hbT⟩ | exact ⟨hbS, hK.out _ hbS⟩) ((first | (go_at_call 15; refine (toN _ _ _ _ _ (hA.out _ (Below.refl _ _).drew).2.1 (by omega)).mono ?_; rintro e wy3 ⟨y3, rfl, hoy, hsy⟩; have hbS := (Below.refl (wz2).heap.size wz2).drew.trans (hsy.mono (by simp))) | (go_at_call 17; refine (eqN _ _ _ _ _ _ _ _ _ (hO_x1.out _ hbS).reads hoy.reads).mono ?_; rintro e wz3 ⟨rfl, hsz⟩; have hbT := hbS.trans (hsz.mono hbS.size); rw [show (n1 == n1 && (p1 == p1) && decide (l1 = l1)) = true by simp])))
    have hb_14 := hb_13.trans (hbT.mono hb_13.size)
    have hz_14 := hbT.size
    have A0_14 := hO_A0.out _ hbT
    have A1_14 := hO_A1.out _ hbT
    have v_14 := hO_v.out _ hbT
    have Xv_14 := hO_Xv.out _ hbT
    have x0_14 := hO_x0.out _ hbT
    have Xx0_14 := hO_Xx0.out _ hbT
    have x1_14 := hO_x1.out _ hbT
    have Xx1_14 := hO_Xx1.out _ hbT
    have g_14 := hO_g.out _ hbT
    have Xg_14 := hO_Xg.out _ hbT
    clear hA hO_A0 hO_A1 hO_v hO_Xv hO_x0 hO_Xx0 hO_x1 hO_Xx1 hO_g hO_Xg hb_13
    clear A0c0 A0c1 A0c2 A1c0 A1c1 A1c2 Xvc0 Xvc1 Xvc2 Xx0c0 Xx0c1 Xx0c2 Xx1c0 Xx1c1 Xx1c2 Xgc0 Xgc1 Xgc2
    have A0c0 := A0_14.cell 0 rfl
    have A0c1 := A0_14.cell 1 rfl
    have A0c2 := A0_14.cell 2 rfl
    have A1c0 := A1_14.cell 0 rfl
    have A1c1 := A1_14.cell 1 rfl
    have A1c2 := A1_14.cell 2 rfl
    have Xvc0 := Xv_14.cell 0 rfl
    have Xvc1 := Xv_14.cell 1 rfl
    have Xvc2 := Xv_14.cell 2 rfl
    have Xx0c0 := Xx0_14.cell 0 rfl
    have Xx0c1 := Xx0_14.cell 1 rfl
    have Xx0c2 := Xx0_14.cell 2 rfl
    have Xx1c0 := Xx1_14.cell 0 rfl
    have Xx1c1 := Xx1_14.cell 1 rfl
    have Xx1c2 := Xx1_14.cell 2 rfl
    have Xgc0 := Xg_14.cell 0 rfl
    have Xgc1 := Xg_14.cell 1 rfl
    have Xgc2 := Xg_14.cell 2 rfl
    clear hbT hbS hsz hsy hoy hK
    go_wp2_with fail
    refine (markN _ _ _ _ (1) _ x0_14 (by omega) (by omega) (by omega)).mono ?_
    rintro e w7 ⟨rfl, ho, hg⟩
    have hs := hg
    have hb_15 := below_gri hb_14 hs (by have := hb_14.size; omega) hb_14.size
    have hz_15 := hs.size
    have A0_15 := A0_14.gri hs (by omega)
    have A1_15 := A1_14.gri hs (by omega)
    have v_15 := v_14.gri hs (by omega)
    have Xv_15 := Xv_14.gri hs (by omega)
    have Xx0_15 := Xx0_14.gri hs (by omega)
    have x1_15 := x1_14.gri hs (by omega)
    have Xx1_15 := Xx1_14.gri hs (by omega)
    have g_15 := g_14.gri hs (by omega)
    have Xg_15 := Xg_14.gri hs (by omega)
    have x0_15 := ho
    clear hs hg ho A0_14 A1_14 v_14 Xv_14 Xx0_14 x1_14 Xx1_14 g_14 Xg_14 x0_14 hb_14
    clear A0c0 A0c1 A0c2 A1c0 A1c1 A1c2 Xvc0 Xvc1 Xvc2 Xx0c0 Xx0c1 Xx0c2 Xx1c0 Xx1c1 Xx1c2 Xgc0 Xgc1 Xgc2
    have A0c0 := A0_15.cell 0 rfl
    have A0c1 := A0_15.cell 1 rfl
    have A0c2 := A0_15.cell 2 rfl
    have A1c0 := A1_15.cell 0 rfl
    have A1c1 := A1_15.cell 1 rfl
    have A1c2 := A1_15.cell 2 rfl
    have Xvc0 := Xv_15.cell 0 rfl
    have Xvc1 := Xv_15.cell 1 rfl
    have Xvc2 := Xv_15.cell 2 rfl
    have Xx0c0 := Xx0_15.cell 0 rfl
    have Xx0c1 := Xx0_15.cell 1 rfl
    have Xx0c2 := Xx0_15.cell 2 rfl
    have Xx1c0 := Xx1_15.cell 0 rfl
    have Xx1c1 := Xx1_15.cell 1 rfl
    have Xx1c2 := Xx1_15.cell 2 rfl
    have Xgc0 := Xg_15.cell 0 rfl
    have Xgc1 := Xg_15.cell 1 rfl
    have Xgc2 := Xg_15.cell 2 rfl
    go_wp2_with fail
    refine (markN _ _ _ _ (1 + tot l0) _ x1_15 (by omega) (by omega) (by omega)).mono ?_
    rintro e w8 ⟨rfl, ho, hg⟩
    have hs := hg
    have hb_16 := below_gri hb_15 hs (by have := hb_15.size; omega) hb_15.size
    have hz_16 := hs.size
    have A0_16 := A0_15.gri hs (by omega)
    have A1_16 := A1_15.gri hs (by omega)
    have v_16 := v_15.gri hs (by omega)
    have Xv_16 := Xv_15.gri hs (by omega)
    have x0_16 := x0_15.gri hs (by omega)
    have Xx0_16 := Xx0_15.gri hs (by omega)
    have Xx1_16 := Xx1_15.gri hs (by omega)
    have g_16 := g_15.gri hs (by omega)
    have Xg_16 := Xg_15.gri hs (by omega)
    have x1_16 := ho
    clear hs hg ho A0_15 A1_15 v_15 Xv_15 x0_15 Xx0_15 Xx1_15 g_15 Xg_15 x1_15 hb_15
    clear A0c0 A0c1 A0c2 A1c0 A1c1 A1c2 Xvc0 Xvc1 Xvc2 Xx0c0 Xx0c1 Xx0c2 Xx1c0 Xx1c1 Xx1c2 Xgc0 Xgc1 Xgc2
    have A0c0 := A0_16.cell 0 rfl
    have A0c1 := A0_16.cell 1 rfl
    have A0c2 := A0_16.cell 2 rfl
    have A1c0 := A1_16.cell 0 rfl
    have A1c1 := A1_16.cell 1 rfl
    have A1c2 := A1_16.cell 2 rfl
    have Xvc0 := Xv_16.cell 0 rfl
    have Xvc1 := Xv_16.cell 1 rfl
    have Xvc2 := Xv_16.cell 2 rfl
    have Xx0c0 := Xx0_16.cell 0 rfl
    have Xx0c1 := Xx0_16.cell 1 rfl
    have Xx0c2 := Xx0_16.cell 2 rfl
    have Xx1c0 := Xx1_16.cell 0 rfl
    have Xx1c1 := Xx1_16.cell 1 rfl
    have Xx1c2 := Xx1_16.cell 2 rfl
    have Xgc0 := Xg_16.cell 0 rfl
    have Xgc1 := Xg_16.cell 1 rfl
    have Xgc2 := Xg_16.cell 2 rfl
    go_wp2_with fail
    refine (eqN _ _ _ _ _ _ _ _ _ g_16.reads v_16.reads).mono ?_
    rintro e w9 ⟨rfl, hs⟩
    have hb_17 := hb_16.trans (hs.mono hb_16.size)
    have hz_17 := hs.size
    have A0_17 := A0_16.below hs
    have A1_17 := A1_16.below hs
    have v_17 := v_16.below hs
    have Xv_17 := Xv_16.below hs
    have x0_17 := x0_16.below hs
    have Xx0_17 := Xx0_16.below hs
    have x1_17 := x1_16.below hs
    have Xx1_17 := Xx1_16.below hs
    have g_17 := g_16.below hs
    have Xg_17 := Xg_16.below hs
    clear hs A0_16 A1_16 v_16 Xv_16 x0_16 Xx0_16 x1_16 Xx1_16 g_16 Xg_16 hb_16
    clear A0c0 A0c1 A0c2 A1c0 A1c1 A1c2 Xvc0 Xvc1 Xvc2 Xx0c0 Xx0c1 Xx0c2 Xx1c0 Xx1c1 Xx1c2 Xgc0 Xgc1 Xgc2
    have A0c0 := A0_17.cell 0 rfl
    have A0c1 := A0_17.cell 1 rfl
    have A0c2 := A0_17.cell 2 rfl
    have A1c0 := A1_17.cell 0 rfl
    have A1c1 := A1_17.cell 1 rfl
    have A1c2 := A1_17.cell 2 rfl
    have Xvc0 := Xv_17.cell 0 rfl
    have Xvc1 := Xv_17.cell 1 rfl
    have Xvc2 := Xv_17.cell 2 rfl
    have Xx0c0 := Xx0_17.cell 0 rfl
    have Xx0c1 := Xx0_17.cell 1 rfl
    have Xx0c2 := Xx0_17.cell 2 rfl
    have Xx1c0 := Xx1_17.cell 0 rfl
    have Xx1c1 := Xx1_17.cell 1 rfl
    have Xx1c2 := Xx1_17.cell 2 rfl
    have Xgc0 := Xg_17.cell 0 rfl
    have Xgc1 := Xg_17.cell 1 rfl
    have Xgc2 := Xg_17.cell 2 rfl
    rw [show (N == N && (P == P) && decide (L = L)) = true by simp]
    go_wp2_with fail
    refine (markN _ _ _ _ (1) _ g_17 (by omega) (by omega) (by omega)).mono ?_
    rintro e w10 ⟨rfl, ho, hg⟩
    have hs := hg
    have hb_18 := below_gri hb_17 hs (by have := hb_17.size; omega) hb_17.size
    have hz_18 := hs.size
    have A0_18 := A0_17.gri hs (by omega)
    have A1_18 := A1_17.gri hs (by omega)
    have v_18 := v_17.gri hs (by omega)
    have Xv_18 := Xv_17.gri hs (by omega)
    have x0_18 := x0_17.gri hs (by omega)
    have Xx0_18 := Xx0_17.gri hs (by omega)
    have x1_18 := x1_17.gri hs (by omega)
    have Xx1_18 := Xx1_17.gri hs (by omega)
    have Xg_18 := Xg_17.gri hs (by omega)
    have g_18 := ho
    clear hs hg ho A0_17 A1_17 v_17 Xv_17 x0_17 Xx0_17 x1_17 Xx1_17 Xg_17 g_17 hb_17
    clear A0c0 A0c1 A0c2 A1c0 A1c1 A1c2 Xvc0 Xvc1 Xvc2 Xx0c0 Xx0c1 Xx0c2 Xx1c0 Xx1c1 Xx1c2 Xgc0 Xgc1 Xgc2
    have A0c0 := A0_18.cell 0 rfl
    have A0c1 := A0_18.cell 1 rfl
    have A0c2 := A0_18.cell 2 rfl
    have A1c0 := A1_18.cell 0 rfl
    have A1c1 := A1_18.cell 1 rfl
    have A1c2 := A1_18.cell 2 rfl
    have Xvc0 := Xv_18.cell 0 rfl
    have Xvc1 := Xv_18.cell 1 rfl
    have Xvc2 := Xv_18.cell 2 rfl
    have Xx0c0 := Xx0_18.cell 0 rfl
    have Xx0c1 := Xx0_18.cell 1 rfl
    have Xx0c2 := Xx0_18.cell 2 rfl
    have Xx1c0 := Xx1_18.cell 0 rfl
    have Xx1c1 := Xx1_18.cell 1 rfl
    have Xx1c2 := Xx1_18.cell 2 rfl
    have Xgc0 := Xg_18.cell 0 rfl
    have Xgc1 := Xg_18.cell 1 rfl
    have Xgc2 := Xg_18.cell 2 rfl
    go_wp2_with fail
    refine (heldN _ _ _ _ 1 _ g_18.reads (by omega) (by omega) (by omega)).mono ?_
    rintro e w11 ⟨rfl, hs⟩
    have hb_19 := hb_18.trans (hs.mono hb_18.size)
    have hz_19 := hs.size
    have A0_19 := A0_18.below hs
    have A1_19 := A1_18.below hs
    have v_19 := v_18.below hs
    have Xv_19 := Xv_18.below hs
    have x0_19 := x0_18.below hs
    have Xx0_19 := Xx0_18.below hs
    have x1_19 := x1_18.below hs
    have Xx1_19 := Xx1_18.below hs
    have g_19 := g_18.below hs
    have Xg_19 := Xg_18.below hs
    clear hs A0_18 A1_18 v_18 Xv_18 x0_18 Xx0_18 x1_18 Xx1_18 g_18 Xg_18 hb_18
    clear A0c0 A0c1 A0c2 A1c0 A1c1 A1c2 Xvc0 Xvc1 Xvc2 Xx0c0 Xx0c1 Xx0c2 Xx1c0 Xx1c1 Xx1c2 Xgc0 Xgc1 Xgc2
    have A0c0 := A0_19.cell 0 rfl
    have A0c1 := A0_19.cell 1 rfl
    have A0c2 := A0_19.cell 2 rfl
    have A1c0 := A1_19.cell 0 rfl
    have A1c1 := A1_19.cell 1 rfl
    have A1c2 := A1_19.cell 2 rfl
    have Xvc0 := Xv_19.cell 0 rfl
    have Xvc1 := Xv_19.cell 1 rfl
    have Xvc2 := Xv_19.cell 2 rfl
    have Xx0c0 := Xx0_19.cell 0 rfl
    have Xx0c1 := Xx0_19.cell 1 rfl
    have Xx0c2 := Xx0_19.cell 2 rfl
    have Xx1c0 := Xx1_19.cell 0 rfl
    have Xx1c1 := Xx1_19.cell 1 rfl
    have Xx1c2 := Xx1_19.cell 2 rfl
    have Xgc0 := Xg_19.cell 0 rfl
    have Xgc1 := Xg_19.cell 1 rfl
    have Xgc2 := Xg_19.cell 2 rfl
    go_wp2_with fail
    have hO_A0 := hid (fun (w' : World) (hw : Below (w11).heap.size w11 w') => A0_19.below hw)
    have hO_A1 := hid (fun (w' : World) (hw : Below (w11).heap.size w11 w') => A1_19.below hw)
    have hO_v := hid (fun (w' : World) (hw : Below (w11).heap.size w11 w') => v_19.below hw)
    have hO_Xv := hid (fun (w' : World) (hw : Below (w11).heap.size w11 w') => Xv_19.below hw)
    have hO_x0 := hid (fun (w' : World) (hw : Below (w11).heap.size w11 w') => x0_19.below hw)
    have hO_Xx0 := hid (fun (w' : World) (hw : Below (w11).heap.size w11 w') => Xx0_19.below hw)
    have hO_x1 := hid (fun (w' : World) (hw : Below (w11).heap.size w11 w') => x1_19.below hw)
    have hO_Xx1 := hid (fun (w' : World) (hw : Below (w11).heap.size w11 w') => Xx1_19.below hw)
    have hO_g := hid (fun (w' : World) (hw : Below (w11).heap.size w11 w') => g_19.below hw)
    have hO_Xg := hid (fun (w' : World) (hw : Below (w11).heap.size w11 w') => Xg_19.below hw)
    have hA := hid (fun (w' : World) (hw : Below (w11).heap.size w11 w') => (⟨h0.below (hb_19.trans (hw.mono hb_19.size)), h1.below (hb_19.trans (hw.mono hb_19.size)), trivial⟩ : ReadsII w' a0 l0 ∧ ReadsII w' a1 l1 ∧ True))
    have hK := hid (fun (w' : World) (hw : Below (w11).heap.size w11 w') => (⟨(A0_19.below hw).cell 0 rfl, (A0_19.below hw).cell 1 rfl, (A0_19.below hw).cell 2 rfl, (A1_19.below hw).cell 0 rfl, (A1_19.below hw).cell 1 rfl, (A1_19.below hw).cell 2 rfl, trivial⟩ : w'.cell? ⟨W.heap.size, 0, none⟩ = some (.int .i64 n0) ∧ w'.cell? ⟨W.heap.size, 1, none⟩ = some (.int .i64 p0) ∧ w'.cell? ⟨W.heap.size, 2, none⟩ = some (a0) ∧ w'.cell? ⟨W.heap.size + 1, 0, none⟩ = some (.int .i64 n1) ∧ w'.cell? ⟨W.heap.size + 1, 1, none⟩ = some (.int .i64 p1) ∧ w'.cell? ⟨W.heap.size + 1, 2, none⟩ = some (a1) ∧ True))
    clear A0_19 A1_19 v_19 Xv_19 x0_19 Xx0_19 x1_19 Xx1_19 g_19 Xg_19
    go_cut [15, 16] (fun b c wx => ∃ (g : Nat) (a : Option Addr) (n c' : Nat), b = .pointer (some ⟨g, 0, none⟩) ∧ c = .int .i64 C ∧ Below (w11).heap.size w11 wx ∧ (w11).heap.size ≤ g ∧ Bx wx g [.int .i64 N, .int .i64 P, .slice a n c'] ∧ OwnII wx (w11).heap.size wx.heap.size 32 2 (.slice a n c') L)
    case first =>
      go_region_held3 (fun w' => Below (w11).heap.size w11 w' ∧ w'.cell? ⟨W.heap.size, 0, none⟩ = some (.int .i64 n0) ∧ w'.cell? ⟨W.heap.size, 1, none⟩ = some (.int .i64 p0) ∧ w'.cell? ⟨W.heap.size, 2, none⟩ = some (a0) ∧ w'.cell? ⟨W.heap.size + 1, 0, none⟩ = some (.int .i64 n1) ∧ w'.cell? ⟨W.heap.size + 1, 1, none⟩ = some (.int .i64 p1) ∧ w'.cell? ⟨W.heap.size + 1, 2, none⟩ = some (a1) ∧ True) (first | exact ⟨(Below.refl _ _).drew, hK.out _ (Below.refl _ _).drew⟩ | exact ⟨((Below.refl _ _).drew.alloc (by simp) _), hK.out _ ((Below.refl _ _).drew.alloc (by simp) _)⟩ | exact ⟨hbT, hK.out _ hbT⟩ | exact ⟨(hbT.alloc hbT.size _), hK.out _ (hbT.alloc hbT.size _)⟩ | exact ⟨hba, hK.out _ hba⟩ | exact ⟨(hba.alloc hba.size _), hK.out _ (hba.alloc hba.size _)⟩ | exact ⟨hbb, hK.out _ hbb⟩ | exact ⟨(hbb.alloc hbb.size _), hK.out _ (hbb.alloc hbb.size _)⟩ | exact ⟨(((hbT.setCell (by first | exact hba.size | exact hbb.size | exact hbT.size | simp) _).setCell (by first | exact hba.size | exact hbb.size | exact hbT.size | simp) _).setCell (by first | exact hba.size | exact hbb.size | exact hbT.size | simp) _), hK.out _ (((hbT.setCell (by first | exact hba.size | exact hbb.size | exact hbT.size | simp) _).setCell (by first | exact hba.size | exact hbb.size | exact hbT.size | simp) _).setCell (by first | exact hba.size | exact hbb.size | exact hbT.size | simp) _)⟩) ((first | (go_at_call_of 15 a0; refine (toN _ _ _ _ _ (by first | exact (hA.out _ (Below.refl _ _).drew).1 | exact (hA.out _ ((Below.refl _ _).drew.alloc (by simp) _)).1 | exact (hA.out _ hbb).1 | exact (hA.out _ (hbb.alloc hbb.size _)).1) (by omega)).mono ?_; rintro e wa4 ⟨c0, rfl, hoa, hsa⟩; have hba : Below (w11).heap.size w11 wa4 := by first | exact hbb.trans (hsa.mono hbb.size) | exact (hbb.alloc hbb.size _).trans (hsa.mono (hbb.alloc hbb.size _).size) | exact (Below.refl (w11).heap.size w11).drew.trans (hsa.mono (by simp)) | exact ((Below.refl (w11).heap.size w11).drew.alloc (by simp) _).trans (hsa.mono (by simp))) | (go_at_call_of 15 a1; refine (toN _ _ _ _ _ (by first | exact (hA.out _ (Below.refl _ _).drew).2.1 | exact (hA.out _ ((Below.refl _ _).drew.alloc (by simp) _)).2.1 | exact (hA.out _ hba).2.1 | exact (hA.out _ (hba.alloc hba.size _)).2.1) (by omega)).mono ?_; rintro e wb4 ⟨c1, rfl, hob, hsb⟩; have hbb : Below (w11).heap.size w11 wb4 := by first | exact hba.trans (hsb.mono hba.size) | exact (hba.alloc hba.size _).trans (hsb.mono (hba.alloc hba.size _).size) | exact (Below.refl (w11).heap.size w11).drew.trans (hsb.mono (by simp)) | exact ((Below.refl (w11).heap.size w11).drew.alloc (by simp) _).trans (hsb.mono (by simp))) | ((go_at_call 50; refine (himpl.out _ _ _ (by first | exact hoa.reads | exact (hoa.below hsb).reads | exact ((hoa.alloc _).below hsb).reads | exact (hoa.alloc _).reads | exact ((hoa.below hsb).alloc _).reads) (by first | exact hob.reads | exact (hob.below hsa).reads | exact ((hob.alloc _).below hsa).reads | exact (hob.alloc _).reads | exact ((hob.below hsa).alloc _).reads)).mono ?_; rintro e wz4 ⟨h, rfl, hoz, hsz⟩; obtain ⟨ha, hn, hc, rfl⟩ := hoz.form; have hbT : Below (w11).heap.size w11 wz4 := by first | exact hba.trans (hsz.mono hba.size) | exact (hba.alloc hba.size _).trans (hsz.mono (hba.alloc hba.size _).size) | exact hbb.trans (hsz.mono hbb.size) | exact (hbb.alloc hbb.size _).trans (hsz.mono (hbb.alloc hbb.size _).size)); (first | (have hBX := (Bx.new _ _ _).below hsz; have X0 := hBX.cell 0 rfl; have X1 := hBX.cell 1 rfl; have X2 := hBX.cell 2 rfl; have Xf0 := hBX.frozen 0; have Xf1 := hBX.frozen 1; have Xf2 := hBX.frozen 2) | (have hBX := ((Bx.new _ _ _).below hsb).below hsz; have X0 := hBX.cell 0 rfl; have X1 := hBX.cell 1 rfl; have X2 := hBX.cell 2 rfl; have Xf0 := hBX.frozen 0; have Xf1 := hBX.frozen 1; have Xf2 := hBX.frozen 2) | (have hBX := ((Bx.new _ _ _).below hsa).below hsz; have X0 := hBX.cell 0 rfl; have X1 := hBX.cell 1 rfl; have X2 := hBX.cell 2 rfl; have Xf0 := hBX.frozen 0; have Xf1 := hBX.frozen 1; have Xf2 := hBX.frozen 2) | (have hBX := (((Bx.new _ _ _).drew.below hsa).below hsb).below hsz; have X0 := hBX.cell 0 rfl; have X1 := hBX.cell 1 rfl; have X2 := hBX.cell 2 rfl; have Xf0 := hBX.frozen 0; have Xf1 := hBX.frozen 1; have Xf2 := hBX.frozen 2) | (have hBX := (((Bx.new _ _ _).drew.below hsb).below hsa).below hsz; have X0 := hBX.cell 0 rfl; have X1 := hBX.cell 1 rfl; have X2 := hBX.cell 2 rfl; have Xf0 := hBX.frozen 0; have Xf1 := hBX.frozen 1; have Xf2 := hBX.frozen 2) | skip))))
      all_goals
        have hlo : (w11).heap.size ≤ _ := hba.size
        have hlb : (w11).heap.size ≤ _ := hbb.size
        have hoz' := hoz
        replace hoz' := hoz'.lower (lo' := (w11).heap.size) (by first | exact hba.size | exact hbb.size | exact (hba.alloc hba.size _).size | exact (hbb.alloc hbb.size _).size)
        go_wp2_with fail
        go_meet
        case rel =>
          first
            | exact ⟨_, _, _, _, rfl, rfl, hbT.alloc hbT.size _, hbT.size, Bx.new _ _ _, (hoz'.alloc _).topped (by simp)⟩
            | exact ⟨_, _, _, _, rfl, rfl, (((hbT.setCell (by first | exact hba.size | exact hbb.size | exact hbT.size | simp) _).setCell (by first | exact hba.size | exact hbb.size | exact hbT.size | simp) _).setCell (by first | exact hba.size | exact hbb.size | exact hbT.size | simp) _), (by first | exact hba.size | exact hbb.size | exact hbT.size | simp), (((hBX.set 0 (.int .i64 N)).set 1 (.int .i64 P)).set 2 (.slice ha hn hc)), ((((hoz.setAt (by first | exact Nat.lt_of_lt_of_le (Bx.lt (Bx.new _ _ _)) (Nat.le_refl _) | exact Nat.lt_of_lt_of_le (Bx.lt (Bx.new _ _ _)) hsb.size | exact Nat.lt_of_lt_of_le (Bx.lt (Bx.new _ _ _)) hsa.size | exact Nat.lt_of_lt_of_le (Bx.lt (Bx.new _ _ _)) (Nat.le_trans hsa.size hsb.size) | exact Nat.lt_of_lt_of_le (Bx.lt (Bx.new _ _ _)) (Nat.le_trans hsb.size hsa.size)) 0 _).setAt (by first | exact Nat.lt_of_lt_of_le (Bx.lt (Bx.new _ _ _)) (Nat.le_refl _) | exact Nat.lt_of_lt_of_le (Bx.lt (Bx.new _ _ _)) hsb.size | exact Nat.lt_of_lt_of_le (Bx.lt (Bx.new _ _ _)) hsa.size | exact Nat.lt_of_lt_of_le (Bx.lt (Bx.new _ _ _)) (Nat.le_trans hsa.size hsb.size) | exact Nat.lt_of_lt_of_le (Bx.lt (Bx.new _ _ _)) (Nat.le_trans hsb.size hsa.size)) 1 _).setAt (by first | exact Nat.lt_of_lt_of_le (Bx.lt (Bx.new _ _ _)) (Nat.le_refl _) | exact Nat.lt_of_lt_of_le (Bx.lt (Bx.new _ _ _)) hsb.size | exact Nat.lt_of_lt_of_le (Bx.lt (Bx.new _ _ _)) hsa.size | exact Nat.lt_of_lt_of_le (Bx.lt (Bx.new _ _ _)) (Nat.le_trans hsa.size hsb.size) | exact Nat.lt_of_lt_of_le (Bx.lt (Bx.new _ _ _)) (Nat.le_trans hsb.size hsa.size)) 2 _)).lowered (by first | exact hba.size | exact hbb.size | exact (hba.alloc hba.size _).size | exact (hbb.alloc hbb.size _).size)⟩
    case rest =>
      clear hK
      obtain ⟨gh, ha, hn, hc, rfl, rfl, hbT, hgh, hBxh, hOwh⟩ := hcut
      have hgth := hBxh.lt
      have hb_20 := hb_19.trans (hbT.mono hb_19.size)
      have hz_20 := hbT.size
      have A0_20 := hO_A0.out _ hbT
      have A1_20 := hO_A1.out _ hbT
      have v_20 := hO_v.out _ hbT
      have Xv_20 := hO_Xv.out _ hbT
      have x0_20 := hO_x0.out _ hbT
      have Xx0_20 := hO_Xx0.out _ hbT
      have x1_20 := hO_x1.out _ hbT
      have Xx1_20 := hO_Xx1.out _ hbT
      have g_20 := hO_g.out _ hbT
      have Xg_20 := hO_Xg.out _ hbT
      clear hA hO_A0 hO_A1 hO_v hO_Xv hO_x0 hO_Xx0 hO_x1 hO_Xx1 hO_g hO_Xg hb_19
      clear A0c0 A0c1 A0c2 A1c0 A1c1 A1c2 Xvc0 Xvc1 Xvc2 Xx0c0 Xx0c1 Xx0c2 Xx1c0 Xx1c1 Xx1c2 Xgc0 Xgc1 Xgc2
      have A0c0 := A0_20.cell 0 rfl
      have A0c1 := A0_20.cell 1 rfl
      have A0c2 := A0_20.cell 2 rfl
      have A1c0 := A1_20.cell 0 rfl
      have A1c1 := A1_20.cell 1 rfl
      have A1c2 := A1_20.cell 2 rfl
      have Xvc0 := Xv_20.cell 0 rfl
      have Xvc1 := Xv_20.cell 1 rfl
      have Xvc2 := Xv_20.cell 2 rfl
      have Xx0c0 := Xx0_20.cell 0 rfl
      have Xx0c1 := Xx0_20.cell 1 rfl
      have Xx0c2 := Xx0_20.cell 2 rfl
      have Xx1c0 := Xx1_20.cell 0 rfl
      have Xx1c1 := Xx1_20.cell 1 rfl
      have Xx1c2 := Xx1_20.cell 2 rfl
      have Xgc0 := Xg_20.cell 0 rfl
      have Xgc1 := Xg_20.cell 1 rfl
      have Xgc2 := Xg_20.cell 2 rfl
      have h_20 := hOwh
      have Xh_20 := hBxh
      clear hOwh hBxh
      clear hbT
      clear A0c0 A0c1 A0c2 A1c0 A1c1 A1c2 Xvc0 Xvc1 Xvc2 Xx0c0 Xx0c1 Xx0c2 Xx1c0 Xx1c1 Xx1c2 Xgc0 Xgc1 Xgc2
      have A0c0 := A0_20.cell 0 rfl
      have A0c1 := A0_20.cell 1 rfl
      have A0c2 := A0_20.cell 2 rfl
      have A1c0 := A1_20.cell 0 rfl
      have A1c1 := A1_20.cell 1 rfl
      have A1c2 := A1_20.cell 2 rfl
      have Xvc0 := Xv_20.cell 0 rfl
      have Xvc1 := Xv_20.cell 1 rfl
      have Xvc2 := Xv_20.cell 2 rfl
      have Xx0c0 := Xx0_20.cell 0 rfl
      have Xx0c1 := Xx0_20.cell 1 rfl
      have Xx0c2 := Xx0_20.cell 2 rfl
      have Xx1c0 := Xx1_20.cell 0 rfl
      have Xx1c1 := Xx1_20.cell 1 rfl
      have Xx1c2 := Xx1_20.cell 2 rfl
      have Xgc0 := Xg_20.cell 0 rfl
      have Xgc1 := Xg_20.cell 1 rfl
      have Xgc2 := Xg_20.cell 2 rfl
      have Xhc0 := Xh_20.cell 0 rfl
      have Xhc1 := Xh_20.cell 1 rfl
      have Xhc2 := Xh_20.cell 2 rfl
      go_wp2_with fail
      refine (eqN _ _ _ _ _ _ _ _ _ h_20.reads v_20.reads).mono ?_
      rintro e w12 ⟨rfl, hs⟩
      have hb_21 := hb_20.trans (hs.mono hb_20.size)
      have hz_21 := hs.size
      have A0_21 := A0_20.below hs
      have A1_21 := A1_20.below hs
      have v_21 := v_20.below hs
      have Xv_21 := Xv_20.below hs
      have x0_21 := x0_20.below hs
      have Xx0_21 := Xx0_20.below hs
      have x1_21 := x1_20.below hs
      have Xx1_21 := Xx1_20.below hs
      have g_21 := g_20.below hs
      have Xg_21 := Xg_20.below hs
      have h_21 := h_20.below hs
      have Xh_21 := Xh_20.below hs
      clear hs A0_20 A1_20 v_20 Xv_20 x0_20 Xx0_20 x1_20 Xx1_20 g_20 Xg_20 h_20 Xh_20 hb_20
      clear A0c0 A0c1 A0c2 A1c0 A1c1 A1c2 Xvc0 Xvc1 Xvc2 Xx0c0 Xx0c1 Xx0c2 Xx1c0 Xx1c1 Xx1c2 Xgc0 Xgc1 Xgc2 Xhc0 Xhc1 Xhc2
      have A0c0 := A0_21.cell 0 rfl
      have A0c1 := A0_21.cell 1 rfl
      have A0c2 := A0_21.cell 2 rfl
      have A1c0 := A1_21.cell 0 rfl
      have A1c1 := A1_21.cell 1 rfl
      have A1c2 := A1_21.cell 2 rfl
      have Xvc0 := Xv_21.cell 0 rfl
      have Xvc1 := Xv_21.cell 1 rfl
      have Xvc2 := Xv_21.cell 2 rfl
      have Xx0c0 := Xx0_21.cell 0 rfl
      have Xx0c1 := Xx0_21.cell 1 rfl
      have Xx0c2 := Xx0_21.cell 2 rfl
      have Xx1c0 := Xx1_21.cell 0 rfl
      have Xx1c1 := Xx1_21.cell 1 rfl
      have Xx1c2 := Xx1_21.cell 2 rfl
      have Xgc0 := Xg_21.cell 0 rfl
      have Xgc1 := Xg_21.cell 1 rfl
      have Xgc2 := Xg_21.cell 2 rfl
      have Xhc0 := Xh_21.cell 0 rfl
      have Xhc1 := Xh_21.cell 1 rfl
      have Xhc2 := Xh_21.cell 2 rfl
      rw [show (N == N && (P == P) && decide (L = L)) = true by simp]
      go_wp2_with fail
      refine (heldN _ _ _ _ 1 _ g_21.reads (by omega) (by omega) (by omega)).mono ?_
      rintro e w13 ⟨rfl, hs⟩
      have hb_22 := hb_21.trans (hs.mono hb_21.size)
      have hz_22 := hs.size
      have A0_22 := A0_21.below hs
      have A1_22 := A1_21.below hs
      have v_22 := v_21.below hs
      have Xv_22 := Xv_21.below hs
      have x0_22 := x0_21.below hs
      have Xx0_22 := Xx0_21.below hs
      have x1_22 := x1_21.below hs
      have Xx1_22 := Xx1_21.below hs
      have g_22 := g_21.below hs
      have Xg_22 := Xg_21.below hs
      have h_22 := h_21.below hs
      have Xh_22 := Xh_21.below hs
      clear hs A0_21 A1_21 v_21 Xv_21 x0_21 Xx0_21 x1_21 Xx1_21 g_21 Xg_21 h_21 Xh_21 hb_21
      clear A0c0 A0c1 A0c2 A1c0 A1c1 A1c2 Xvc0 Xvc1 Xvc2 Xx0c0 Xx0c1 Xx0c2 Xx1c0 Xx1c1 Xx1c2 Xgc0 Xgc1 Xgc2 Xhc0 Xhc1 Xhc2
      have A0c0 := A0_22.cell 0 rfl
      have A0c1 := A0_22.cell 1 rfl
      have A0c2 := A0_22.cell 2 rfl
      have A1c0 := A1_22.cell 0 rfl
      have A1c1 := A1_22.cell 1 rfl
      have A1c2 := A1_22.cell 2 rfl
      have Xvc0 := Xv_22.cell 0 rfl
      have Xvc1 := Xv_22.cell 1 rfl
      have Xvc2 := Xv_22.cell 2 rfl
      have Xx0c0 := Xx0_22.cell 0 rfl
      have Xx0c1 := Xx0_22.cell 1 rfl
      have Xx0c2 := Xx0_22.cell 2 rfl
      have Xx1c0 := Xx1_22.cell 0 rfl
      have Xx1c1 := Xx1_22.cell 1 rfl
      have Xx1c2 := Xx1_22.cell 2 rfl
      have Xgc0 := Xg_22.cell 0 rfl
      have Xgc1 := Xg_22.cell 1 rfl
      have Xgc2 := Xg_22.cell 2 rfl
      have Xhc0 := Xh_22.cell 0 rfl
      have Xhc1 := Xh_22.cell 1 rfl
      have Xhc2 := Xh_22.cell 2 rfl
      go_wp2_with fail
      go_ret
      exact ⟨rfl, hb_22⟩


end Go.Proofs.Ytmeccemnmkobbaa
