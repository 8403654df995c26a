/- Walks of the exact laws over braids whose results are plain. -/
import Derived.Test.YtmeccemnmkobbaaBrb
import Derived.Test.YtmeccemnmkobbaaBrc
import Derived.Test.YtmeccemnmkobbaaBrd
import Derived.Deep.RegionHeld3
namespace Go.Proofs.Ytmeccemnmkobbaa
open Go.RowKit

theorem Own.form' {w : World} {B : Nat} {e : TypeId} {v : Value} {l : List Int} (h : Own w B e v (ints l)) : ∃ a c, v = .slice a l.length c := by
  obtain ⟨a, c, rfl, -⟩ := h.reads.form
  exact ⟨a, c, by rw [length_ints]⟩
theorem szN_yes {k : Nat} {q : Int} (h : ¬ q - k < 0) : szN k q = q - k := by simp [szN, h]
theorem szN_no {k : Nat} {q : Int} (h : q - k < 0) : szN k q = -1 := by simp [szN, h]

end Go.Proofs.Ytmeccemnmkobbaa
