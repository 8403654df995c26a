/- The reduced word, step by step. Plain. -/
import Derived.Test.YtmeccemnmkobbaaRwb
namespace Go.Proofs.Ytmeccemnmkobbaa

theorem curAt_step (l : List Int) (t : Nat) : curAt l (t + 1) = curAt (stepL l) t := by
  induction t with
  | zero => rfl
  | succ t ih => show stepL (curAt l (t + 1)) = stepL (curAt (stepL l) t); rw [ih]
theorem outAt_step (l : List Int) (t : Nat) : outAt l (t + 1) = headL l ++ outAt (stepL l) t := by
  induction t with
  | zero => simp [outAt, curAt]
  | succ t ih =>
    show outAt l (t + 1) ++ headL (curAt l (t + 1)) = _
    rw [ih, curAt_step, List.append_assoc]; rfl
theorem redF_none {l : List Int} (h : descF l = []) : redF l = [] := by
  have := (stays_done (l := l) (t := 0) h (invsF l).toNat).2
  rw [Nat.zero_add] at this
  exact this
theorem redF_some {l : List Int} {k : Int} {r : List Int} (h : descF l = k :: r) : redF l = k :: redF (stepL l) := by
  have h1 := invs_step h
  have h2 := invsF_nonneg (stepL l)
  unfold redF
  rw [show (invsF l).toNat = (invsF (stepL l)).toNat + 1 by omega, outAt_step]
  have h3 : headL l = [k] := by unfold headL; rw [h]
  rw [h3]; rfl

end Go.Proofs.Ytmeccemnmkobbaa
