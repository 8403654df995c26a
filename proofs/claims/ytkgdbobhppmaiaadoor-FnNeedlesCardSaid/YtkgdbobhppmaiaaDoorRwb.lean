/- Contracts: reduced words. -/
import Derived.Test.YtkgdbobhppmaiaaDoorWpb
import Derived.Test.YtkgdbobhppmaiaaDoorApq
import Derived.Lib.LazyBuf
import Derived.Test.YtkgdbobhppmaiaaDoorSwp
import Derived.Test.YtkgdbobhppmaiaaDoorInv
namespace Go.Proofs.YtkgdbobhppmaiaaDoor
open Go.RowKit

theorem isDesc_yes {p : List Int} {k : Nat} (h : decide (nth p (k + 1) < nth p k) = true) : isDesc p k = true := h
theorem isDesc_no {p : List Int} {k : Nat} (h : decide (nth p (k + 1) < nth p k) = false) : isDesc p k = false := h

end Go.Proofs.YtkgdbobhppmaiaaDoor

namespace Go.Proofs.YtkgdbobhppmaiaaDoor
open Go.RowKit

theorem length_descF (l : List Int) : (descF l).length ≤ l.length := by
  have := length_listTo (isDesc l) (fun i : Nat => (i : Int)) (l.length - 1)
  unfold descF; omega
theorem nth_descF (l : List Int) {i : Nat} (h : i < (descF l).length) : 0 ≤ nth (descF l) i ∧ nth (descF l) i < l.length := by
  have hm : nth (descF l) i ∈ descF l := by
    have := nth_of h
    exact List.mem_of_getElem? this
  generalize nth (descF l) i = x at *
  simp only [descF, listTo, List.mem_map, List.mem_filter, List.mem_range] at hm
  obtain ⟨j, ⟨hj, _⟩, e⟩ := hm
  omega
/-- the first k numbers one more -/
def bumpTo (l : List Int) (k : Nat) : List Int := (l.take k).map (· + 1) ++ l.drop k
@[simp] theorem length_bumpTo (l : List Int) (k : Nat) : (bumpTo l k).length = l.length := by simp [bumpTo]; omega
theorem nth_bumpTo {l : List Int} {k : Nat} (h : k < l.length) : nth (bumpTo l k) k = nth l k := by
  have : (bumpTo l k)[k]? = l[k]? := by
    unfold bumpTo
    rw [List.getElem?_append_right (by simp; omega), List.getElem?_drop]
    congr 1; simp; omega
  unfold nth; rw [this]
theorem bumpTo_step {l : List Int} {k : Nat} (h : k < l.length) : (bumpTo l k).set k (nth l k + 1) = bumpTo l (k + 1) := by
  unfold bumpTo
  rw [take_succ_map l (· + 1) h, List.set_append_right _ _ (by simp; omega)]
  have : k - ((l.take k).map (· + 1)).length = 0 := by simp; omega
  rw [this, List.drop_eq_getElem_cons h, List.set_cons_zero, List.append_assoc]
  rfl

theorem nth_take {l : List Int} {k j : Nat} (h : j < k) : nth (l.take k) j = nth l j := by simp [nth, h]
theorem has_take_yes {l : List Int} {k : Nat} (hk : k < l.length) (h : hasF (l.take k) (nth l k) = true) : ∃ j, j < k ∧ nth l j = nth l k := by
  obtain ⟨j, hj, e⟩ := seen_yes h
  have hj' : j < k := by simp at hj; omega
  exact ⟨j, hj', by rw [nth_take hj'] at e; exact e⟩
theorem has_take_no {l : List Int} {k : Nat} (hk : k < l.length) (h : hasF (l.take k) (nth l k) = false) : ∀ j, j < k → nth l j ≠ nth l k := by
  intro j hj e
  exact seen_no h j (by simp; omega) (by rw [nth_take hj]; exact e)

end Go.Proofs.YtkgdbobhppmaiaaDoor

namespace Go.Proofs.YtkgdbobhppmaiaaDoor
open Go.RowKit

/-- a result that is nil where the test fails -/
def onlyIf (b : Bool) (l : List Int) : List Int := if b = true then l else []
theorem own_nil (w : World) (B : Nat) (e : TypeId) : Own w B e (.slice none 0 0) [] := .inl ⟨rfl, rfl⟩
theorem IsPerm.range {l : List Int} (h : IsPerm l) : ∀ i, i < l.length → 0 ≤ nth l i ∧ nth l i < l.length := fun _ hi => ⟨h.lo hi, h.hi hi⟩
theorem length_invF_le {l : List Int} {n : Nat} (h : l.length ≤ n) : (invF l).length ≤ n := by simpa using h

end Go.Proofs.YtkgdbobhppmaiaaDoor

namespace Go.Proofs.YtkgdbobhppmaiaaDoor
open Go.RowKit

/-- the first letter with which q can begin but p cannot end; 0 if there is none -/
def extraF (p q : List Int) : Int := ((startF q).find? fun k => !hasF (startF (invF p)) k).getD 0
theorem find_first {S : List Int} {f : Int → Bool} {k : Nat} (hk : k < S.length) (hno : ∀ j, j < k → f (nth S j) = false) (hy : f (nth S k) = true) : S.find? f = some (nth S k) := by
  induction S generalizing k with
  | nil => simp at hk
  | cons x S ih =>
    cases k with
    | zero => rw [List.find?_cons_of_pos (by simpa [nth] using hy)]; rfl
    | succ k =>
      have h0 := hno 0 (by omega)
      rw [List.find?_cons_of_neg (by simpa [nth] using h0)]
      have := ih (k := k) (by simpa using hk) (fun j hj => by have := hno (j + 1) (by omega); simpa [nth] using this) (by simpa [nth] using hy)
      rw [this]; simp [nth]
theorem find_no {S : List Int} {f : Int → Bool} (hno : ∀ j, j < S.length → f (nth S j) = false) : S.find? f = none := by
  rw [List.find?_eq_none]
  intro x hx
  obtain ⟨j, hj, rfl⟩ := List.getElem_of_mem hx
  have := hno j hj
  simpa [nth, hj] using this


/-- whether a pair is left-weighted -/
def lwF (p q : List Int) : Bool := okP p && okP q && decide (p.length = q.length) && (extraF p q == 0)

end Go.Proofs.YtkgdbobhppmaiaaDoor

namespace Go.Proofs.YtkgdbobhppmaiaaDoor
open Go.RowKit

theorem inB_no {x lo hi : Int} (h : inB x lo hi = false) : ¬ (lo ≤ x ∧ x ≤ hi) := by simp [inB] at h; omega

set_option maxRecDepth 100000 in
set_option maxHeartbeats 400000 in
theorem strands_impl (n : Int) (w : World) :
    Calls Tryd.prog 89 #[.int .i64 n] w fun e w' => e = .returned (.bool (inB n 0 12)) ∧ w = w' := by
  go_enter Tryd.func89, Tryd.ntmps89
  go_wp2_with fail
  refine (in_impl _ _ _ _).mono ?_
  rintro e w1 ⟨rfl, rfl⟩
  go_wp2_with fail
  go_ret
  exact ⟨rfl, rfl⟩

/-- all letters of a word are exchanges of n things -/
def wordOk (n : Int) (l : List Int) (k : Nat) : Bool := (List.range k).all fun i => inB (nth l i) 0 (n - 2)
theorem wordOk_succ (n : Int) (l : List Int) (k : Nat) : wordOk n l (k + 1) = (wordOk n l k && inB (nth l k) 0 (n - 2)) := by simp [wordOk, List.range_succ]
theorem wordOk_at {n : Int} {l : List Int} {k : Nat} (h : wordOk n l k = true) {i : Nat} (hi : i < k) : 0 ≤ nth l i ∧ nth l i + 1 < n := by
  simp only [wordOk, List.all_eq_true, List.mem_range] at h
  have := inB_yes (h i hi); omega
theorem wordOk_no {n : Int} {l : List Int} {k m : Nat} (h : inB (nth l k) 0 (n - 2) = false) (hk : k < m) : wordOk n l m = false := by
  cases e : wordOk n l m with
  | false => rfl
  | true =>
    simp only [wordOk, List.all_eq_true, List.mem_range] at e
    rw [e k hk] at h; cases h
/-- whether a word is taken -/
def takes (n : Int) (l : List Int) : Bool := inB n 0 12 && decide (l.length ≤ 200) && wordOk n l l.length

end Go.Proofs.YtkgdbobhppmaiaaDoor

namespace Go.Proofs.YtkgdbobhppmaiaaDoor
open Go.RowKit

/-- the exchange at the first descent -/
def stepL (l : List Int) : List Int := match descF l with
  | [] => l
  | k :: _ => swapAt l k.toNat
def headL (l : List Int) : List Int := match descF l with
  | [] => []
  | k :: _ => [k]
def curAt (l : List Int) : Nat → List Int
  | 0 => l
  | t + 1 => stepL (curAt l t)
def outAt (l : List Int) : Nat → List Int
  | 0 => []
  | t + 1 => outAt l t ++ headL (curAt l t)
/-- the exchanges that sort a list, the leftmost one first -/
def redF (l : List Int) : List Int := outAt l (invsF l).toNat
@[simp] theorem length_stepL (l : List Int) : (stepL l).length = l.length := by unfold stepL; split <;> simp
@[simp] theorem length_curAt (l : List Int) (t : Nat) : (curAt l t).length = l.length := by
  induction t with
  | zero => rfl
  | succ t ih => rw [curAt, length_stepL, ih]
theorem mem_descF {l : List Int} {x : Int} (h : x ∈ descF l) : ∃ k : Nat, x = k ∧ k + 1 < l.length ∧ nth l (k + 1) < nth l k := by
  unfold descF listTo at h
  rw [List.mem_map] at h
  obtain ⟨k, hk, rfl⟩ := h
  rw [List.mem_filter, List.mem_range] at hk
  exact ⟨k, rfl, by omega, by have := hk.2; unfold isDesc at this; simpa using this⟩
theorem descF_first {l : List Int} {k : Nat} (hk : k + 1 < l.length) (hno : ∀ i, i < k → isDesc l i = false) (hd : isDesc l k = true) : ∃ r, descF l = (k : Int) :: r := by
  unfold descF listTo
  have h1 : ∀ m, k < m → ∃ r, (List.range m).filter (isDesc l) = k :: r := by
    intro m hm
    induction m with
    | zero => omega
    | succ m ih =>
      rw [List.range_succ, List.filter_append]
      by_cases e : k = m
      · subst e
        have : (List.range k).filter (isDesc l) = [] := by
          rw [List.filter_eq_nil_iff]
          intro i hi
          rw [List.mem_range] at hi
          simp [hno i hi]
        rw [this]; simp [hd]
      · obtain ⟨r, hr⟩ := ih (by omega)
        rw [hr]; exact ⟨_, rfl⟩
  obtain ⟨r, hr⟩ := h1 (l.length - 1) (by omega)
  rw [hr]; exact ⟨_, rfl⟩
theorem descF_none {l : List Int} (hno : ∀ i, i + 1 < l.length → isDesc l i = false) : descF l = [] := by
  unfold descF listTo
  have : (List.range (l.length - 1)).filter (isDesc l) = [] := by
    rw [List.filter_eq_nil_iff]
    intro i hi
    rw [List.mem_range] at hi
    simp [hno i (by omega)]
  rw [this]; rfl
theorem stepL_at {l : List Int} {k : Nat} {r : List Int} (h : descF l = (k : Int) :: r) : stepL l = swapAt l k ∧ headL l = [(k : Int)] := by
  unfold stepL headL; rw [h]; simp
theorem invs_step {l : List Int} {k : Int} {r : List Int} (h : descF l = k :: r) : invsF (stepL l) = invsF l - 1 := by
  obtain ⟨j, rfl, hj, hd⟩ := mem_descF (l := l) (x := k) (by rw [h]; simp)
  rw [(stepL_at h).1]
  exact invs_desc hj hd
theorem stays_done {l : List Int} {t : Nat} (h : descF (curAt l t) = []) (m : Nat) : curAt l (t + m) = curAt l t ∧ outAt l (t + m) = outAt l t := by
  induction m with
  | zero => exact ⟨rfl, rfl⟩
  | succ m ih =>
    obtain ⟨a, b⟩ := ih
    constructor
    · show stepL (curAt l (t + m)) = _
      rw [a]; unfold stepL; rw [h]
    · show outAt l (t + m) ++ headL (curAt l (t + m)) = _
      rw [a, b]; unfold headL; rw [h]; simp
/-- behind t exchanges nothing is left to be exchanged -/
theorem redF_at {l : List Int} {t : Nat} (hi : invsF (curAt l t) = invsF l - t) (h : descF (curAt l t) = []) : redF l = outAt l t := by
  have h0 := invsF_nonneg (curAt l t)
  have := (stays_done h ((invsF l).toNat - t)).2
  unfold redF
  rw [show t + ((invsF l).toNat - t) = (invsF l).toNat by omega] at this
  exact this
/-- the letters of the word: one more each -/
def lettersF (l : List Int) : List Int := (redF l).map (· + 1)
/-- how long a slice value is -/
def lenV : Value → Nat
  | .slice _ n _ => n
  | _ => 0
theorem Own.lenV_eq {w : World} {B : Nat} {e : TypeId} {v : Value} {xs : List Value} (h : Own w B e v xs) : lenV v = xs.length := by
  obtain ⟨a, c, rfl, -⟩ := h.reads.form; rfl
theorem startF_nil {l : List Int} (h : descF l = []) : startF l = [] := by rw [startF_descF, h]; rfl
theorem startF_cons {l : List Int} {k : Int} {r : List Int} (h : descF l = k :: r) : startF l = (k + 1) :: r.map (· + 1) := by rw [startF_descF, h]; rfl

end Go.Proofs.YtkgdbobhppmaiaaDoor
