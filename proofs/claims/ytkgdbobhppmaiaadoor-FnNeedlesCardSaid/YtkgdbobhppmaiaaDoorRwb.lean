/- Contracts: reduced words. -/
import Derived.Test.YtkgdbobhppmaiaaDoorRwa
import Derived.Test.YtkgdbobhppmaiaaDoorSwp
import Derived.Test.YtkgdbobhppmaiaaDoorInv
namespace Go.Proofs.YtkgdbobhppmaiaaDoor
open Go.RowKit

/-- the exchange at the first descent -/
def stepL (l : List Int) : List Int := match descF l with
  | [] => l
  | k :: _ => swapAt l k.toNat
def headL (l : List Int) : List Int := match descF l with
  | [] => []
  | k :: _ => [k]
def curAt (l : List Int) : Nat → List Int
  | 0 => l
  | t + 1 => stepL (curAt l t)
def outAt (l : List Int) : Nat → List Int
  | 0 => []
  | t + 1 => outAt l t ++ headL (curAt l t)
/-- the exchanges that sort a list, the leftmost one first -/
def redF (l : List Int) : List Int := outAt l (invsF l).toNat
@[simp] theorem length_stepL (l : List Int) : (stepL l).length = l.length := by unfold stepL; split <;> simp
@[simp] theorem length_curAt (l : List Int) (t : Nat) : (curAt l t).length = l.length := by
  induction t with
  | zero => rfl
  | succ t ih => rw [curAt, length_stepL, ih]
theorem mem_descF {l : List Int} {x : Int} (h : x ∈ descF l) : ∃ k : Nat, x = k ∧ k + 1 < l.length ∧ nth l (k + 1) < nth l k := by
  unfold descF listTo at h
  rw [List.mem_map] at h
  obtain ⟨k, hk, rfl⟩ := h
  rw [List.mem_filter, List.mem_range] at hk
  exact ⟨k, rfl, by omega, by have := hk.2; unfold isDesc at this; simpa using this⟩
theorem descF_first {l : List Int} {k : Nat} (hk : k + 1 < l.length) (hno : ∀ i, i < k → isDesc l i = false) (hd : isDesc l k = true) : ∃ r, descF l = (k : Int) :: r := by
  unfold descF listTo
  have h1 : ∀ m, k < m → ∃ r, (List.range m).filter (isDesc l) = k :: r := by
    intro m hm
    induction m with
    | zero => omega
    | succ m ih =>
      rw [List.range_succ, List.filter_append]
      by_cases e : k = m
      · subst e
        have : (List.range k).filter (isDesc l) = [] := by
          rw [List.filter_eq_nil_iff]
          intro i hi
          rw [List.mem_range] at hi
          simp [hno i hi]
        rw [this]; simp [hd]
      · obtain ⟨r, hr⟩ := ih (by omega)
        rw [hr]; exact ⟨_, rfl⟩
  obtain ⟨r, hr⟩ := h1 (l.length - 1) (by omega)
  rw [hr]; exact ⟨_, rfl⟩
theorem descF_none {l : List Int} (hno : ∀ i, i + 1 < l.length → isDesc l i = false) : descF l = [] := by
  unfold descF listTo
  have : (List.range (l.length - 1)).filter (isDesc l) = [] := by
    rw [List.filter_eq_nil_iff]
    intro i hi
    rw [List.mem_range] at hi
    simp [hno i (by omega)]
  rw [this]; rfl
theorem stepL_at {l : List Int} {k : Nat} {r : List Int} (h : descF l = (k : Int) :: r) : stepL l = swapAt l k ∧ headL l = [(k : Int)] := by
  unfold stepL headL; rw [h]; simp
theorem invs_step {l : List Int} {k : Int} {r : List Int} (h : descF l = k :: r) : invsF (stepL l) = invsF l - 1 := by
  obtain ⟨j, rfl, hj, hd⟩ := mem_descF (l := l) (x := k) (by rw [h]; simp)
  rw [(stepL_at h).1]
  exact invs_desc hj hd
theorem stays_done {l : List Int} {t : Nat} (h : descF (curAt l t) = []) (m : Nat) : curAt l (t + m) = curAt l t ∧ outAt l (t + m) = outAt l t := by
  induction m with
  | zero => exact ⟨rfl, rfl⟩
  | succ m ih =>
    obtain ⟨a, b⟩ := ih
    constructor
    · show stepL (curAt l (t + m)) = _
      rw [a]; unfold stepL; rw [h]
    · show outAt l (t + m) ++ headL (curAt l (t + m)) = _
      rw [a, b]; unfold headL; rw [h]; simp
/-- behind t exchanges nothing is left to be exchanged -/
theorem redF_at {l : List Int} {t : Nat} (hi : invsF (curAt l t) = invsF l - t) (h : descF (curAt l t) = []) : redF l = outAt l t := by
  have h0 := invsF_nonneg (curAt l t)
  have := (stays_done h ((invsF l).toNat - t)).2
  unfold redF
  rw [show t + ((invsF l).toNat - t) = (invsF l).toNat by omega] at this
  exact this
/-- the letters of the word: one more each -/
def lettersF (l : List Int) : List Int := (redF l).map (· + 1)
/-- how long a slice value is -/
def lenV : Value → Nat
  | .slice _ n _ => n
  | _ => 0
theorem Own.lenV_eq {w : World} {B : Nat} {e : TypeId} {v : Value} {xs : List Value} (h : Own w B e v xs) : lenV v = xs.length := by
  obtain ⟨a, c, rfl, -⟩ := h.reads.form; rfl
theorem startF_nil {l : List Int} (h : descF l = []) : startF l = [] := by rw [startF_descF, h]; rfl
theorem startF_cons {l : List Int} {k : Int} {r : List Int} (h : descF l = k :: r) : startF l = (k + 1) :: r.map (· + 1) := by rw [startF_descF, h]; rfl

end Go.Proofs.YtkgdbobhppmaiaaDoor
