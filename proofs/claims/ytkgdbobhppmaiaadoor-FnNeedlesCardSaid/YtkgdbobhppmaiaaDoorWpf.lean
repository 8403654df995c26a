/- Contracts: exported identity, half twist, word, inversions, descents. -/
import Derived.Test.YtkgdbobhppmaiaaDoorWpe
import Derived.Test.YtkgdbobhppmaiaaDoorSwp
namespace Go.Proofs.YtkgdbobhppmaiaaDoor
open Go.RowKit

theorem inB_no {x lo hi : Int} (h : inB x lo hi = false) : ¬ (lo ≤ x ∧ x ≤ hi) := by simp [inB] at h; omega

set_option maxRecDepth 100000 in
set_option maxHeartbeats 400000 in
theorem strands_impl (n : Int) (w : World) :
    Calls Tryd.prog 89 #[.int .i64 n] w fun e w' => e = .returned (.bool (inB n 0 12)) ∧ w = w' := by
  go_enter Tryd.func89, Tryd.ntmps89
  go_wp2_with fail
  refine (in_impl _ _ _ _).mono ?_
  rintro e w1 ⟨rfl, rfl⟩
  go_wp2_with fail
  go_ret
  exact ⟨rfl, rfl⟩

/-- all letters of a word are exchanges of n things -/
def wordOk (n : Int) (l : List Int) (k : Nat) : Bool := (List.range k).all fun i => inB (nth l i) 0 (n - 2)
theorem wordOk_succ (n : Int) (l : List Int) (k : Nat) : wordOk n l (k + 1) = (wordOk n l k && inB (nth l k) 0 (n - 2)) := by simp [wordOk, List.range_succ]
theorem wordOk_at {n : Int} {l : List Int} {k : Nat} (h : wordOk n l k = true) {i : Nat} (hi : i < k) : 0 ≤ nth l i ∧ nth l i + 1 < n := by
  simp only [wordOk, List.all_eq_true, List.mem_range] at h
  have := inB_yes (h i hi); omega
theorem wordOk_no {n : Int} {l : List Int} {k m : Nat} (h : inB (nth l k) 0 (n - 2) = false) (hk : k < m) : wordOk n l m = false := by
  cases e : wordOk n l m with
  | false => rfl
  | true =>
    simp only [wordOk, List.all_eq_true, List.mem_range] at e
    rw [e k hk] at h; cases h
/-- whether a word is taken -/
def takes (n : Int) (l : List Int) : Bool := inB n 0 12 && decide (l.length ≤ 200) && wordOk n l l.length

end Go.Proofs.YtkgdbobhppmaiaaDoor
