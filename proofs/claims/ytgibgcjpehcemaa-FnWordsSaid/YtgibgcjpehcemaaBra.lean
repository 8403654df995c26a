/- Contracts: tests of braids, their copies, comparisons and marks. -/
import Derived.Test.YtgibgcjpehcemaaHelp
import Derived.Test.YtgibgcjpehcemaaBas
import Derived.Test.YtgibgcjpehcemaaSum
import Derived.Test.YtgibgcjpehcemaaApq
namespace Go.Proofs.Ytgibgcjpehcemaa
open Go.RowKit

theorem Own.one {w : World} {B : Nat} {e : TypeId} {v : Value} {xs : List Value} (h : Own w B e v xs) : v.oneCell' = true := by
  rcases h with ⟨rfl, _⟩ | ⟨g, o, cap, cur, rfl, _⟩ <;> rfl
theorem Reads.one {w : World} {v : Value} {xs : List Value} (h : Reads w v xs) : v.oneCell' = true := by
  obtain ⟨a, c, rfl, _⟩ := h.form; rfl

/-- k is a letter on n strands -/
def letterB (n k : Int) : Bool := !(k == 0) && inB k (1 - n) (n - 1)
/-- the first k are letters -/
def lettersTo (n : Int) (l : List Int) (k : Nat) : Bool := (List.range k).all fun i => letterB n (nth l i)
theorem letters_succ (n : Int) (l : List Int) (k : Nat) : lettersTo n l (k + 1) = (lettersTo n l k && letterB n (nth l k)) := by simp [lettersTo, List.range_succ]
theorem letters_no {n : Int} {l : List Int} {k m : Nat} (h : letterB n (nth l k) = false) (hk : k < m) : lettersTo n l m = false := by
  cases e : lettersTo n l m with
  | false => rfl
  | true =>
    rw [lettersTo, List.all_eq_true] at e
    have := e k (by simpa using hk)
    rw [h] at this; cases this
theorem letters_at {n : Int} {l : List Int} {m k : Nat} (h : lettersTo n l m = true) (hk : k < m) : nth l k ≠ 0 ∧ 1 - n ≤ nth l k ∧ nth l k ≤ n - 1 := by
  rw [lettersTo, List.all_eq_true] at h
  have := h k (by simpa using hk)
  simp only [letterB, inB, Bool.and_eq_true, Bool.not_eq_true', beq_eq_false_iff_ne, decide_eq_true_eq] at this
  exact ⟨this.1, this.2.1, this.2.2⟩
theorem inB_yes' {x lo hi : Int} (h : inB x lo hi = true) : lo ≤ x ∧ x ≤ hi := by simpa [inB] using h
/-- whether a braid is valid -/
def okB (n : Int) (l : List Int) : Bool := inB n 0 12 && decide (l.length ≤ 40) && lettersTo n l l.length
theorem okB_of {n : Int} {l : List Int} (h : okB n l = true) : 0 ≤ n ∧ n ≤ 12 ∧ l.length ≤ 40 ∧ ∀ k, k < l.length → nth l k ≠ 0 ∧ 1 - n ≤ nth l k ∧ nth l k ≤ n - 1 := by
  simp only [okB, Bool.and_eq_true, decide_eq_true_eq] at h
  obtain ⟨⟨h1, h2⟩, h3⟩ := h
  have := inB_yes' h1
  exact ⟨this.1, this.2, h2, fun k hk => letters_at h3 hk⟩


/-- a braid in memory: the strands, and a word that reads as l -/
structure BoxB (w : World) (a : Addr) (n : Int) (v : Value) (l : List Int) : Prop where
  spot : a.spot = none
  c0 : w.cell? a = some (.int .i64 n)
  c1 : w.cell? ⟨a.block, a.off + 1, none⟩ = some v
  rd : Reads w v (ints l)

end Go.Proofs.Ytgibgcjpehcemaa
