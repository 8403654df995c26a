/- Contracts: exported identity, half twist, word, inversions, descents. -/
import Derived.Test.YtmeccemnmkobbaaWpe
import Derived.Test.YtmeccemnmkobbaaSwp
namespace Go.Proofs.Ytmeccemnmkobbaa
open Go.RowKit

theorem inB_no {x lo hi : Int} (h : inB x lo hi = false) : ¬ (lo ≤ x ∧ x ≤ hi) := by simp [inB] at h; omega

set_option maxRecDepth 100000 in
set_option maxHeartbeats 400000 in
theorem strands_impl (n : Int) (w : World) :
    Calls Try.prog 56 #[.int .i64 n] w fun e w' => e = .returned (.bool (inB n 0 12)) ∧ w = w' := by
  go_enter Try.func56, Try.ntmps56
  go_wp2_with fail
  refine (in_impl _ _ _ _).mono ?_
  rintro e w1 ⟨rfl, rfl⟩
  go_wp2_with fail
  go_ret
  exact ⟨rfl, rfl⟩

set_option maxRecDepth 100000 in
set_option maxHeartbeats 1000000 in
theorem HalfI (n : Int) (w : World) :
    Calls Try.prog 27 #[.int .i64 n] w fun e w' => ∃ x, e = .returned (x) ∧ Own w' w.heap.size 2 x (ints (onlyIf (inB n 0 12) (halfF n.toNat))) ∧ Below w.heap.size w w' := by
  cases e1 : inB n 0 12 with
  | false =>
    go_enter Try.func27, Try.ntmps27
    go_wp2_with fail
    refine (strands_impl _ _).mono ?_
    rintro e w1 ⟨rfl, rfl⟩
    rw [e1]
    go_wp2_with fail
    go_ret
    exact ⟨_, rfl, own_nil _ _ _, Below.refl _ _⟩
  | true =>
    obtain ⟨x0, x1⟩ := inB_yes e1
    go_enter Try.func27, Try.ntmps27
    go_wp2_with fail
    refine (strands_impl _ _).mono ?_
    rintro e w1 ⟨rfl, rfl⟩
    rw [e1]
    go_wp2_with fail
    refine (half_impl _ _ x0 (by omega)).mono ?_
    rintro e w2 ⟨x, rfl, hown, hb⟩
    go_wp2_with fail
    go_ret
    exact ⟨_, rfl, hown, hb⟩

/-- all letters of a word are exchanges of n things -/
def wordOk (n : Int) (l : List Int) (k : Nat) : Bool := (List.range k).all fun i => inB (nth l i) 0 (n - 2)
theorem wordOk_succ (n : Int) (l : List Int) (k : Nat) : wordOk n l (k + 1) = (wordOk n l k && inB (nth l k) 0 (n - 2)) := by simp [wordOk, List.range_succ]
theorem wordOk_at {n : Int} {l : List Int} {k : Nat} (h : wordOk n l k = true) {i : Nat} (hi : i < k) : 0 ≤ nth l i ∧ nth l i + 1 < n := by
  simp only [wordOk, List.all_eq_true, List.mem_range] at h
  have := inB_yes (h i hi); omega
theorem wordOk_no {n : Int} {l : List Int} {k m : Nat} (h : inB (nth l k) 0 (n - 2) = false) (hk : k < m) : wordOk n l m = false := by
  cases e : wordOk n l m with
  | false => rfl
  | true =>
    simp only [wordOk, List.all_eq_true, List.mem_range] at e
    rw [e k hk] at h; cases h
/-- whether a word is taken -/
def takes (n : Int) (l : List Int) : Bool := inB n 0 12 && decide (l.length ≤ 200) && wordOk n l l.length

end Go.Proofs.Ytmeccemnmkobbaa
