/- Contracts: drawn permutations. -/
import Derived.Test.YtgibgcjpehcemaaSre
namespace Go.Proofs.Ytgibgcjpehcemaa
open Go.RowKit
open Pm

/-- two places are exchanged -/
def exAt (l : List Int) (i k : Nat) : List Int := (l.set i (nth l k)).set k (nth l i)
@[simp] theorem length_exAt (l : List Int) (i k : Nat) : (exAt l i k).length = l.length := by simp [exAt]
theorem nth_exAt {l : List Int} {i k : Nat} (hi : i < l.length) (hk : k < l.length) (j : Nat) : nth (exAt l i k) j = nth l (if j = k then i else if j = i then k else j) := by
  unfold exAt
  rw [nth_set' (by simpa using hk), nth_set' hi]
  by_cases e : k = j
  · rw [if_pos e, if_pos e.symm]
  · rw [if_neg e, if_neg (fun x : j = k => e x.symm)]
    by_cases e2 : i = j
    · rw [if_pos e2, if_pos e2.symm]
    · rw [if_neg e2, if_neg (fun x : j = i => e2 x.symm)]
theorem exch_perm {l : List Int} (h : IsPerm l) {i k : Nat} (hi : i < l.length) (hk : k < l.length) : IsPerm (exAt l i k) := by
  intro a ha
  rw [length_exAt] at ha ⊢
  have hb : ∀ b, b < l.length → (if b = k then i else if b = i then k else b) < l.length := fun b hb => by split <;> (try split) <;> omega
  rw [nth_exAt hi hk]
  refine ⟨h.lo (hb a ha), h.hi (hb a ha), fun b hba => ?_⟩
  rw [nth_exAt hi hk]
  refine h.ne (hb b (by omega)) (hb a ha) ?_
  split <;> split <;> (try split) <;> (try split) <;> omega

end Go.Proofs.Ytgibgcjpehcemaa
