/- Contracts: which normal forms are valid. -/
import Derived.Test.YtkgdbobhppmaiaaDoorRea
import Derived.Test.YtkgdbobhppmaiaaDoorSwp
import Derived.Test.YtkgdbobhppmaiaaDoorWpf
namespace Go.Proofs.YtkgdbobhppmaiaaDoor
open Go.RowKit


/-- whether factor i may stand in a normal form -/
def facOk (n : Int) (ls : List (List Int)) (i : Nat) : Bool := decide (((rat ls i).length : Int) = n) && okP (rat ls i) && !decide (rat ls i = idn n.toNat) && !decide (rat ls i = halfF n.toNat) && (i == 0 || extraF (rat ls (i - 1)) (rat ls i) == 0)
/-- whether a normal form is valid -/
def normB (n p : Int) (ls : List (List Int)) : Bool := inB n 0 12 && inB p (-100) 100 && decide (ls.length ≤ 100) && (decide (2 ≤ n) || p == 0) && (List.range ls.length).all (facOk n ls)
theorem facOk_of {n : Int} {ls : List (List Int)} {i : Nat} (h : facOk n ls i = true) : ((rat ls i).length : Int) = n ∧ okP (rat ls i) = true ∧ rat ls i ≠ idn n.toNat ∧ rat ls i ≠ halfF n.toNat ∧ (i = 0 ∨ extraF (rat ls (i - 1)) (rat ls i) = 0) := by
  simp [facOk] at h; obtain ⟨⟨⟨⟨a, b⟩, c⟩, d⟩, e⟩ := h; exact ⟨a, b, c, d, e⟩
theorem facOk_small {n : Int} (h : n < 2) (ls : List (List Int)) (i : Nat) : facOk n ls i = false := by
  cases e : facOk n ls i with
  | false => rfl
  | true =>
    obtain ⟨a, b, c, -⟩ := facOk_of e
    exact absurd (ext_nth (by simp; omega) fun j hj => by
      have hp := (okP_of b).2
      have h1 := hp.lo hj
      have h2 := hp.hi hj
      rw [nth_idn (by omega)]; omega) c
theorem all_no {f : Nat → Bool} {m i : Nat} (hi : i < m) (h : f i = false) : (List.range m).all f = false := by
  rw [List.all_eq_false]; exact ⟨i, by simpa using hi, by simp [h]⟩
theorem all_yes {f : Nat → Bool} {m : Nat} (h : ∀ i, i < m → f i = true) : (List.range m).all f = true := by
  rw [List.all_eq_true]; intro x hx; exact h x (by simpa using hx)
theorem normB_fac {n p : Int} {ls : List (List Int)} {i : Nat} (hi : i < ls.length) (h : facOk n ls i = false) : normB n p ls = false := by
  simp only [normB, all_no hi h, Bool.and_false]

end Go.Proofs.YtkgdbobhppmaiaaDoor
