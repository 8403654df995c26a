/- Contracts: the identity and the half twist, of the program and of the reference. -/
import Derived.Test.YtgibgcjpehcemaaHelp
import Derived.Test.YtgibgcjpehcemaaApp
import Derived.Test.YtgibgcjpehcemaaBas
namespace Go.Proofs.Ytgibgcjpehcemaa
open Go.RowKit

/-- 0, 1, .. n-1 -/
def idn (n : Nat) : List Int := marks n 0
theorem idn_succ (k : Nat) : idn (k + 1) = idn k ++ [(k : Int)] := by simp [idn, marks, List.range_succ]
@[simp] theorem length_idn (n : Nat) : (idn n).length = n := by simp [idn]
theorem nth_idn {n i : Nat} (h : i < n) : nth (idn n) i = i := by rw [idn, nth_marks h]; omega

set_option maxHeartbeats 1000000 in
theorem idn_spec (n : Int) (w : World) (h0 : 0 ≤ n) (h1 : n ≤ 1048576) :
    Calls Try.prog 66 #[.int .i64 n] w fun e w' => ∃ u, e = .returned u ∧ Own w' w.heap.size 2 u (ints (idn n.toNat)) ∧ Below w.heap.size w w' := by
  go_enter Try.func66, Try.ntmps66
  go_wp2_with fail
  go_loopw [3, 4] (fun u i wr => ∃ k : Nat, k ≤ n ∧ i = .int .i64 k ∧ Own wr w.heap.size 2 u (ints (idn k)) ∧ Below w.heap.size w wr) (fun _ i _ => n.toNat - (intOf i).toNat)
  case atStart =>
    exact ⟨0, by omega, rfl, own_empty w _ (Nat.le_refl _), (Below.refl _ _).alloc (Nat.le_refl _) _⟩
  case round =>
    obtain ⟨k, hk, rfl, hown, hb⟩ := hrel
    by_cases hlt : (k : Int) < n
    · obtain ⟨v', w', hr, hown', hb'⟩ := app_one (ty := 22) (x := .int .i64 k) sliceI infoI rfl hown rfl hb.size (by simp; omega) (by decide) hb (Nat.le_refl _)
      go_wp2_with (at_builtin; refine wpList_app hr rfl _ _ rfl rfl rfl ?_)
      go_roundw
      case rel => exact ⟨k + 1, by omega, by go_num, by rw [idn_succ]; simpa [ints] using hown', hb'⟩
      case measure => simp [intOf]; omega
    · go_wp2_with fail
      go_ret
      obtain rfl : n = k := by omega
      exact ⟨_, rfl, by simpa using hown, hb⟩

end Go.Proofs.Ytgibgcjpehcemaa
