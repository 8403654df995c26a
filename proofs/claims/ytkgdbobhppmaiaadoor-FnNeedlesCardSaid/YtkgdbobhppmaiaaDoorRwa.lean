/- Contracts: copies, searches, the first letter that can be moved, left-weighted pairs. -/
import Derived.Test.YtkgdbobhppmaiaaDoorWpd
import Derived.Test.YtkgdbobhppmaiaaDoorWpe
import Derived.Test.YtkgdbobhppmaiaaDoorApq
import Derived.Lib.LazyBuf
namespace Go.Proofs.YtkgdbobhppmaiaaDoor
open Go.RowKit

/-- the first letter with which q can begin but p cannot end; 0 if there is none -/
def extraF (p q : List Int) : Int := ((startF q).find? fun k => !hasF (startF (invF p)) k).getD 0
theorem find_first {S : List Int} {f : Int → Bool} {k : Nat} (hk : k < S.length) (hno : ∀ j, j < k → f (nth S j) = false) (hy : f (nth S k) = true) : S.find? f = some (nth S k) := by
  induction S generalizing k with
  | nil => simp at hk
  | cons x S ih =>
    cases k with
    | zero => rw [List.find?_cons_of_pos (by simpa [nth] using hy)]; rfl
    | succ k =>
      have h0 := hno 0 (by omega)
      rw [List.find?_cons_of_neg (by simpa [nth] using h0)]
      have := ih (k := k) (by simpa using hk) (fun j hj => by have := hno (j + 1) (by omega); simpa [nth] using this) (by simpa [nth] using hy)
      rw [this]; simp [nth]
theorem find_no {S : List Int} {f : Int → Bool} (hno : ∀ j, j < S.length → f (nth S j) = false) : S.find? f = none := by
  rw [List.find?_eq_none]
  intro x hx
  obtain ⟨j, hj, rfl⟩ := List.getElem_of_mem hx
  have := hno j hj
  simpa [nth, hj] using this


/-- whether a pair is left-weighted -/
def lwF (p q : List Int) : Bool := okP p && okP q && decide (p.length = q.length) && (extraF p q == 0)

end Go.Proofs.YtkgdbobhppmaiaaDoor
