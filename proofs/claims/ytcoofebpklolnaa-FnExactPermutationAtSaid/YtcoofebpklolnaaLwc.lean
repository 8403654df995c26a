/- Walk of the exact law of PermutationAt. -/
import Derived.Test.YtcoofebpklolnaaPat
import Derived.Test.YtcoofebpklolnaaLwa
namespace Go.Proofs.Ytcoofebpklolnaa
open Go.RowKit

set_option maxHeartbeats 2000000 in
theorem walk_FnExactPermutationAt (x0 : Int) (x1 : Int) (W : World) (b0 : -9223372036854775808 ≤ x0 ∧ x0 ≤ 9223372036854775807) (b1 : -9223372036854775808 ≤ x1 ∧ x1 ≤ 9223372036854775807) :
    Calls Try.prog 12 #[.int .i64 x0, .int .i64 x1] W fun e w' => e = .returned (.bool true) ∧ Below W.heap.size W w' := by
  go_enter Try.func12, Try.ntmps12
  have hb0 : Below W.heap.size W W := Below.refl _ _
  go_wp2_with fail
  refine (AtS _ _ _ b0 b1).mono ?_
  rintro e w1 ⟨v0, rfl, ho, hs⟩
  have v0O1 := ho.mono hb0.size
  have hb1 := hb0.trans (hs.mono hb0.size)
  clear ho
  clear hb0 hs
  go_wp2_with fail
  refine (AtI _ _ _ b0 b1).mono ?_
  rintro e w2 ⟨g0, rfl, ho, hs⟩
  have ap_v0_g0 : Apart v0 g0 := apart_new v0O1 ho
  have ap_g0_v0 : Apart g0 v0 := apart_new' v0O1 ho
  have g0O2 := ho.mono hb1.size
  have hb2 := hb1.trans (hs.mono hb1.size)
  have v0O2 := v0O1.below hs
  clear ho
  clear hb1 v0O1 hs
  go_wp2_with fail
  refine (eqI _ _ _ _ _ g0O2.reads v0O2.reads).mono ?_
  rintro e w3 ⟨rfl, hs⟩
  have hb3 := hb2.trans (hs.mono hb2.size)
  have v0O3 := v0O2.below hs
  have g0O3 := g0O2.below hs
  clear hb2 v0O2 g0O2 hs
  rw [decide_eq_true rfl]
  go_wp2_with fail
  refine (markI _ _ (1) _ g0O3 (by have := onlyIf_le (b := hasRank x0 x1) (l := atF x0.toNat x1.toNat) (n := 12) (fun h => by simp [hasRank] at h; have := inB_yes h.1; simp [atF]; omega); omega) (by omega) (by omega)).mono ?_
  rintro e w4 ⟨rfl, ho, hs⟩
  have hb4 := hb3.grown hs hb3.size (fun k hk => (g0O3.blk_lt hk).1)
  have v0O4 := v0O3.grown hs (ap_v0_g0).ne
  have g0O4 := ho
  clear ho
  clear hb3 v0O3 g0O3 hs
  go_wp2_with fail
  refine (heldI _ _ (1) _ g0O4.reads (by have := onlyIf_le (b := hasRank x0 x1) (l := atF x0.toNat x1.toNat) (n := 12) (fun h => by simp [hasRank] at h; have := inB_yes h.1; simp [atF]; omega); omega) (by omega) (by omega)).mono ?_
  rintro e w5 ⟨rfl, hs⟩
  have hb5 := hb4.trans (hs.mono hb4.size)
  have v0O5 := v0O4.below hs
  have g0O5 := g0O4.below hs
  clear hb4 v0O4 g0O4 hs
  go_wp2_with fail
  refine (AtI _ _ _ b0 b1).mono ?_
  rintro e w6 ⟨r0, rfl, ho, hs⟩
  have ap_v0_r0 : Apart v0 r0 := apart_new v0O5 ho
  have ap_r0_v0 : Apart r0 v0 := apart_new' v0O5 ho
  have ap_g0_r0 : Apart g0 r0 := apart_new g0O5 ho
  have ap_r0_g0 : Apart r0 g0 := apart_new' g0O5 ho
  have r0O6 := ho.mono hb5.size
  have hb6 := hb5.trans (hs.mono hb5.size)
  have v0O6 := v0O5.below hs
  have g0O6 := g0O5.below hs
  clear ho
  clear hb5 v0O5 g0O5 hs
  go_wp2_with fail
  refine (eqI _ _ _ _ _ r0O6.reads v0O6.reads).mono ?_
  rintro e w7 ⟨rfl, hs⟩
  have hb7 := hb6.trans (hs.mono hb6.size)
  have v0O7 := v0O6.below hs
  have g0O7 := g0O6.below hs
  have r0O7 := r0O6.below hs
  clear hb6 v0O6 g0O6 r0O6 hs
  rw [decide_eq_true rfl]
  go_wp2_with fail
  refine (heldI _ _ (1) _ g0O7.reads (by have := onlyIf_le (b := hasRank x0 x1) (l := atF x0.toNat x1.toNat) (n := 12) (fun h => by simp [hasRank] at h; have := inB_yes h.1; simp [atF]; omega); omega) (by omega) (by omega)).mono ?_
  rintro e w8 ⟨rfl, hs⟩
  have hb8 := hb7.trans (hs.mono hb7.size)
  have v0O8 := v0O7.below hs
  have g0O8 := g0O7.below hs
  have r0O8 := r0O7.below hs
  clear hb7 v0O7 g0O7 r0O7 hs
  go_wp2_with fail
  go_ret
  exact ⟨rfl, hb8⟩


end Go.Proofs.Ytcoofebpklolnaa
