/- Contracts: start and finish letters; both test functions on two lists; the second test of the reference. -/
import Derived.Test.YtoomkkeffejcdaaWpc
namespace Go.Proofs.Ytoomkkeffejcdaa
open Go.RowKit

theorem length_descF (l : List Int) : (descF l).length ≤ l.length := by
  have := length_listTo (isDesc l) (fun i : Nat => (i : Int)) (l.length - 1)
  unfold descF; omega
theorem nth_descF (l : List Int) {i : Nat} (h : i < (descF l).length) : 0 ≤ nth (descF l) i ∧ nth (descF l) i < l.length := by
  have hm : nth (descF l) i ∈ descF l := by
    have := nth_of h
    exact List.mem_of_getElem? this
  generalize nth (descF l) i = x at *
  simp only [descF, listTo, List.mem_map, List.mem_filter, List.mem_range] at hm
  obtain ⟨j, ⟨hj, _⟩, e⟩ := hm
  omega
/-- the first k numbers one more -/
def bumpTo (l : List Int) (k : Nat) : List Int := (l.take k).map (· + 1) ++ l.drop k
@[simp] theorem length_bumpTo (l : List Int) (k : Nat) : (bumpTo l k).length = l.length := by simp [bumpTo]; omega
theorem nth_bumpTo {l : List Int} {k : Nat} (h : k < l.length) : nth (bumpTo l k) k = nth l k := by
  have : (bumpTo l k)[k]? = l[k]? := by
    unfold bumpTo
    rw [List.getElem?_append_right (by simp; omega), List.getElem?_drop]
    congr 1; simp; omega
  unfold nth; rw [this]
theorem bumpTo_step {l : List Int} {k : Nat} (h : k < l.length) : (bumpTo l k).set k (nth l k + 1) = bumpTo l (k + 1) := by
  unfold bumpTo
  rw [take_succ_map l (· + 1) h, List.set_append_right _ _ (by simp; omega)]
  have : k - ((l.take k).map (· + 1)).length = 0 := by simp; omega
  rw [this, List.drop_eq_getElem_cons h, List.set_cons_zero, List.append_assoc]
  rfl

theorem nth_take {l : List Int} {k j : Nat} (h : j < k) : nth (l.take k) j = nth l j := by simp [nth, h]
theorem has_take_yes {l : List Int} {k : Nat} (hk : k < l.length) (h : hasF (l.take k) (nth l k) = true) : ∃ j, j < k ∧ nth l j = nth l k := by
  obtain ⟨j, hj, e⟩ := seen_yes h
  have hj' : j < k := by simp at hj; omega
  exact ⟨j, hj', by rw [nth_take hj'] at e; exact e⟩
theorem has_take_no {l : List Int} {k : Nat} (hk : k < l.length) (h : hasF (l.take k) (nth l k) = false) : ∀ j, j < k → nth l j ≠ nth l k := by
  intro j hj e
  exact seen_no h j (by simp; omega) (by rw [nth_take hj]; exact e)

end Go.Proofs.Ytoomkkeffejcdaa
