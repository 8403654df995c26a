/- Lists of permutations, and how a letter is moved in them from a factor to the one before it. Plain. -/
import Derived.Test.YtmeccemnmkobbaaRl
import Derived.Test.YtmeccemnmkobbaaRow
namespace Go.Proofs.Ytmeccemnmkobbaa
open Pm

/-- the lists of numbers of permutations -/
def vals {n : Nat} (L : List (Pm n)) : List (List Int) := L.map (·.1)
@[simp] theorem length_vals {n : Nat} (L : List (Pm n)) : (vals L).length = L.length := by simp [vals]
def pat {n : Nat} (L : List (Pm n)) (i : Nat) : Pm n := L[i]?.getD (one n)
theorem pat_of {n : Nat} {L : List (Pm n)} {i : Nat} (h : i < L.length) : L[i]? = some (pat L i) := by simp [pat, h]
theorem rat_vals {n : Nat} {L : List (Pm n)} {i : Nat} (h : i < L.length) : rat (vals L) i = (pat L i).1 := by simp [rat, vals, pat, h]
theorem vals_set {n : Nat} (L : List (Pm n)) (i : Nat) (p : Pm n) : vals (L.set i p) = (vals L).set i p.1 := by simp [vals, List.map_set]
theorem vals_append {n : Nat} (L M : List (Pm n)) : vals (L ++ M) = vals L ++ vals M := by simp [vals]
theorem len_rat {n : Nat} {L : List (Pm n)} {i : Nat} (h : i < L.length) : (rat (vals L) i).length = n := by rw [rat_vals h, Pm.len]
theorem tot_vals {n : Nat} (L : List (Pm n)) : tot (vals L) = n * L.length := by
  induction L with
  | nil => simp [vals, tot]
  | cons p L ih =>
    show tot (p.1 :: vals L) = _
    rw [tot_cons, ih, p.len, List.length_cons]
    have : ((L.length + 1 : Nat) : Int) = (L.length : Int) + 1 := by omega
    rw [this, Int.mul_add]; omega

/-- the factors at i and i + 1 are replaced -/
def mv {n : Nat} (L : List (Pm n)) (i : Nat) (p q : Pm n) : List (Pm n) := (L.set i p).set (i + 1) q
@[simp] theorem length_mv {n : Nat} (L : List (Pm n)) (i : Nat) (p q : Pm n) : (mv L i p q).length = L.length := by simp [mv]
theorem two_at {n : Nat} {L : List (Pm n)} {i : Nat} (h : i + 1 < L.length) : ∃ A B, L = A ++ pat L i :: pat L (i + 1) :: B ∧ ∀ p q, mv L i p q = A ++ p :: q :: B := by
  refine ⟨L.take i, L.drop (i + 2), ?_, ?_⟩
  · have e1 : L.drop i = pat L i :: L.drop (i + 1) := by
      rw [List.drop_eq_getElem_cons (by omega)]; simp [pat, show i < L.length by omega]
    have e2 : L.drop (i + 1) = pat L (i + 1) :: L.drop (i + 2) := by
      rw [List.drop_eq_getElem_cons h]; simp [pat, h]
    rw [← e2, ← e1, List.take_append_drop]
  · intro p q
    unfold mv
    apply List.ext_getElem?
    intro j
    have hl : (L.take i).length = i := by simp; omega
    rw [List.getElem?_set, List.getElem?_set]
    by_cases h1 : i + 1 = j
    · subst h1; rw [if_pos rfl, List.getElem?_append_right (by omega), hl]; simp; omega
    · rw [if_neg h1]
      by_cases h2 : i = j
      · subst h2; rw [if_pos rfl, List.getElem?_append_right (by omega), hl]; simp; omega
      · rw [if_neg h2]
        by_cases h3 : j < i
        · rw [List.getElem?_append_left (by omega), List.getElem?_take, if_pos h3]
        · rw [List.getElem?_append_right (by omega), hl]
          obtain ⟨t, rfl⟩ : ∃ t, j = i + 2 + t := ⟨j - i - 2, by omega⟩
          rw [show i + 2 + t - i = t + 2 by omega]
          simp
theorem pat_mv {n : Nat} {L : List (Pm n)} {i j : Nat} {p q : Pm n} (h : i + 1 < L.length) : pat (mv L i p q) j = if j = i then p else if j = i + 1 then q else pat L j := by
  unfold pat mv
  rw [List.getElem?_set, List.getElem?_set]
  by_cases h1 : i + 1 = j
  · subst h1; simp [h]
  · rw [if_neg h1]
    by_cases h2 : i = j
    · subst h2
      rw [if_pos rfl, if_pos rfl]; simp [show i < L.length by omega]
    · rw [if_neg h2, if_neg (fun e => h2 e.symm), if_neg (fun e => h1 e.symm)]
/-- one letter is moved -/
theorem move_at {n : Nat} {L : List (Pm n)} {i : Nat} (h : i + 1 < L.length) {k : Nat} (hk : k < n) (h0 : 0 < k) (h1 : le (sg n k hk) (pat L (i + 1))) (h2 : (gar n).red (pat L i) (sg n k hk)) :
    (gar n).Eqv L (mv L i (mul (pat L i) (sg n k hk)) (mul (sg n k hk) (pat L (i + 1)))) ∧ far 0 (mv L i (mul (pat L i) (sg n k hk)) (mul (sg n k hk) (pat L (i + 1)))) = far 0 L - 1 := by
  obtain ⟨A, B, e1, e2⟩ := two_at h
  generalize pat L i = p at *
  generalize pat L (i + 1) = q at *
  rw [e2, e1]
  refine ⟨?_, far_move 0 A B p q _ _ (ni_back p hk h0 h2) (ni_front q hk h0 h1)⟩
  have := move_eqv p q hk h1 h2
  have h3 := (gar n).eqv_app ((gar n).eqv_refl A) ((gar n).eqv_app this ((gar n).eqv_refl B))
  simpa using h3
theorem wt_of_all {n : Nat} {L : List (Pm n)} (h : ∀ i, i + 1 < L.length → extraF (pat L i).1 (pat L (i + 1)).1 = 0) : (gar n).Wt L := by
  induction L with
  | nil => trivial
  | cons x L ih =>
    cases L with
    | nil => trivial
    | cons y L =>
      refine ⟨(extra_iff x y).1 (by have := h 0 (by simp); simpa [pat] using this), ih fun i hi => ?_⟩
      have := h (i + 1) (by simpa using hi)
      simpa [pat] using this
/-- the state behind a list that is left-weighted -/
theorem NF_of {n : Nat} {L L' : List (Pm n)} (he : (gar n).Eqv L L') (h : ∀ i, i + 1 < L'.length → extraF (pat L' i).1 (pat L' (i + 1)).1 = 0) : (gar n).NF (0, L) = ((gar n).tops L', L'.filter (gar n).mid) := by
  rw [(gar n).NF_eqv he, (gar n).NF_wt (wt_of_all h)]; congr 1; omega
theorem tops_take {n : Nat} {L : List (Pm n)} {k : Nat} (h : k < L.length) : (gar n).tops (L.take (k + 1)) = (gar n).tops (L.take k) + (if pat L k ≠ (gar n).one ∧ pat L k = (gar n).top then 1 else 0) := by
  rw [List.take_add_one, pat_of h]
  generalize L.take k = A
  generalize pat L k = x
  simp only [Option.toList_some]
  induction A with
  | nil => simp [Gar.tops]
  | cons y A ih =>
    rw [List.cons_append, Gar.tops, Gar.tops, ih]
    split <;> split <;> omega
theorem filter_take {n : Nat} {L : List (Pm n)} {k : Nat} (h : k < L.length) (f : Pm n → Bool) : (L.take (k + 1)).filter f = (L.take k).filter f ++ (if f (pat L k) then [pat L k] else []) := by
  rw [List.take_add_one, pat_of h, List.filter_append]
  congr 1
  simp [List.filter_cons]
theorem tops_le {n : Nat} (L : List (Pm n)) : 0 ≤ (gar n).tops L ∧ (gar n).tops L ≤ L.length := by
  induction L with
  | nil => simp [Gar.tops]
  | cons x L ih => rw [Gar.tops, List.length_cons]; split <;> omega
end Go.Proofs.Ytmeccemnmkobbaa
