/- The closure of pairs under going on, reckoned by rounds and by widths; the permutation with given crossing pairs as a list. Plain. -/
import Derived.Test.YtgibgcjpehcemaaMee
import Derived.Test.YtgibgcjpehcemaaPl
namespace Go.Proofs.Ytgibgcjpehcemaa

/-- after K rounds: paths whose inner places lie below K -/
def wars (R : Nat → Nat → Bool) : Nat → Nat → Nat → Bool
  | 0, i, j => R i j
  | K + 1, i, j => wars R K i j || (decide (i < K) && decide (K < j) && (wars R K i K && wars R K K j))
theorem wars_succ (R : Nat → Nat → Bool) (K i j : Nat) : wars R (K + 1) i j = true ↔ wars R K i j = true ∨ (i < K ∧ K < j ∧ wars R K i K = true ∧ wars R K K j = true) := by
  simp only [wars, Bool.or_eq_true, Bool.and_eq_true, decide_eq_true_eq, and_assoc]
theorem wars_out {R : Nat → Nat → Bool} {K i j : Nat} (h : ¬ (i < K ∧ K < j)) : wars R (K + 1) i j = wars R K i j := by
  rw [wars]
  have e : (decide (i < K) && decide (K < j)) = false := by
    rw [Bool.eq_false_iff]
    intro h2
    simp only [Bool.and_eq_true, decide_eq_true_eq] at h2
    exact h h2
  rw [e]; simp
theorem wars_in {R : Nat → Nat → Bool} {K i j : Nat} (h1 : i < K) (h2 : K < j) : wars R (K + 1) i j = (wars R K i j || (wars R K i K && wars R K K j)) := by
  rw [wars, decide_eq_true h1, decide_eq_true h2]; simp
theorem wars_base {R : Nat → Nat → Bool} {i j : Nat} (h : R i j = true) (K : Nat) : wars R K i j = true := by
  induction K with
  | zero => exact h
  | succ K ih => rw [wars_succ]; exact .inl ih
theorem wars_clos {R : Nat → Nat → Bool} {K i j : Nat} (hij : i < j) (h : wars R K i j = true) : clos R i j = true := by
  induction K generalizing i j with
  | zero => exact clos_base hij h
  | succ K ih =>
    rw [wars_succ] at h
    rcases h with h | ⟨a, b, c, d⟩
    · exact ih hij h
    · exact clos_trans a b (ih a c) (ih b d)
theorem wars_trans {R : Nat → Nat → Bool} {K i m j : Nat} (him : i < m) (hmj : m < j) (hm : m < K) (h1 : wars R K i m = true) (h2 : wars R K m j = true) : wars R K i j = true := by
  induction K generalizing i m j with
  | zero => omega
  | succ K ih =>
    rw [wars_succ] at h1 h2 ⊢
    by_cases e : m = K
    · subst e
      have a : wars R m i m = true := by
        rcases h1 with h | ⟨_, b, _⟩
        · exact h
        · omega
      have b : wars R m m j = true := by
        rcases h2 with h | ⟨b, _⟩
        · exact h
        · omega
      exact .inr ⟨him, hmj, a, b⟩
    · have a : wars R K i m = true := by
        rcases h1 with h | ⟨_, b, _⟩
        · exact h
        · omega
      rcases h2 with h | ⟨b, c, d, f⟩
      · exact .inl (ih him hmj (by omega) a h)
      · exact .inr ⟨by omega, c, ih him b (by omega) a d, f⟩
theorem wars_eq {R : Nat → Nat → Bool} {n i j : Nat} (hij : i < j) (hj : j < n) : wars R n i j = clos R i j := by
  cases e : clos R i j with
  | false =>
    cases e2 : wars R n i j with
    | false => rfl
    | true => rw [wars_clos hij e2] at e; cases e
  | true => exact clos_ind (n := n) (R := R) (P := fun i j => wars R n i j = true) (fun i j _ _ h => wars_base h n) (fun i j k a b c h1 h2 => wars_trans a b (by omega) h1 h2) hij hj e

theorem clos_split {R : Nat → Nat → Bool} {i j : Nat} (hij : i < j) : clos R i j = true ↔ R i j = true ∨ ∃ m, i < m ∧ m < j ∧ clos R i m = true ∧ clos R m j = true := by
  constructor
  · intro h
    unfold clos at h
    obtain ⟨v, rfl⟩ : ∃ v, j = v + 1 := ⟨j - 1, by omega⟩
    rw [reach_succ] at h
    rcases h with h | ⟨k, a, b, c, d⟩
    · exact .inl h
    · exact .inr ⟨k, a, b, clos_base a c, clos_of b d⟩
  · rintro (h | ⟨m, a, b, c, d⟩)
    · exact clos_base hij h
    · exact clos_trans a b c d
/-- the pair i, j when the places between i and m were tried -/
def prt (R : Nat → Nat → Bool) (i j m : Nat) : Bool := R i j || (List.range m).any fun t => decide (i < t) && (clos R i t && clos R t j)
theorem prt_start (R : Nat → Nat → Bool) (i j : Nat) : prt R i j (i + 1) = R i j := by
  unfold prt
  have e : ((List.range (i + 1)).any fun t => decide (i < t) && (clos R i t && clos R t j)) = false := by
    rw [List.any_eq_false]
    intro t ht
    have : ¬ i < t := by have := List.mem_range.1 ht; omega
    simp [this]
  rw [e]; simp
theorem prt_succ {R : Nat → Nat → Bool} {i j m : Nat} (h : i < m) : prt R i j (m + 1) = (prt R i j m || (clos R i m && clos R m j)) := by
  unfold prt
  rw [List.range_succ, List.any_append, Bool.or_assoc]
  simp [h]
theorem prt_end {R : Nat → Nat → Bool} {i j : Nat} (h : i < j) : prt R i j j = clos R i j := by
  rw [Bool.eq_iff_iff, clos_split h]
  unfold prt
  rw [Bool.or_eq_true, List.any_eq_true]
  constructor
  · rintro (a | ⟨t, a, b⟩)
    · exact .inl a
    · simp only [Bool.and_eq_true, decide_eq_true_eq] at b
      exact .inr ⟨t, b.1, by simpa using a, b.2.1, b.2.2⟩
  · rintro (a | ⟨t, a, b, c, d⟩)
    · exact .inl a
    · exact .inr ⟨t, by simpa using b, by simp [a, c, d]⟩

/-! the list of places -/
/-- how far place x has come when the pairs of the places before i, and those of i and the places before j, were counted -/
def upTo' (n i j x : Nat) : Nat := if x < i then n else if x = i then j else if x < j then i + 1 else i
def stL (E : Nat → Nat → Bool) (n i j : Nat) : List Int := (List.range n).map fun x => cnt (bef E x) (upTo' n i j x)
@[simp] theorem length_stL (E : Nat → Nat → Bool) (n i j : Nat) : (stL E n i j).length = n := by simp [stL]
theorem nth_stL {E : Nat → Nat → Bool} {n i j x : Nat} (h : x < n) : nth (stL E n i j) x = cnt (bef E x) (upTo' n i j x) := by simp [nth, stL, h]
def rkL (E : Nat → Nat → Bool) (n : Nat) : List Int := (List.range n).map fun x => cnt (bef E x) n
@[simp] theorem length_rkL (E : Nat → Nat → Bool) (n : Nat) : (rkL E n).length = n := by simp [rkL]
theorem nth_rkL {E : Nat → Nat → Bool} {n x : Nat} (h : x < n) : nth (rkL E n) x = cnt (bef E x) n := by simp [nth, rkL, h]
theorem cnt_self (E : Nat → Nat → Bool) (x : Nat) : cnt (bef E x) (x + 1) = cnt (bef E x) x := cnt_no (bef_irr E x)
theorem stL_start (E : Nat → Nat → Bool) (n : Nat) : stL E n 0 1 = List.replicate n 0 := by
  apply ext_nth (by simp)
  intro x hx
  rw [length_stL] at hx
  rw [nth_stL hx]
  have e : nth (List.replicate n (0 : Int)) x = 0 := by simp [nth, hx]
  rw [e]
  unfold upTo'
  rw [if_neg (by omega)]
  by_cases h : x = 0
  · subst h; rw [if_pos rfl]; exact cnt_self E 0
  · rw [if_neg h, if_neg (by omega)]; rfl
theorem stL_row (E : Nat → Nat → Bool) {n i : Nat} (h : i < n) : stL E n i n = stL E n (i + 1) (i + 2) := by
  apply ext_nth (by simp)
  intro x hx
  rw [length_stL] at hx
  rw [nth_stL hx, nth_stL hx]
  unfold upTo'
  rcases Nat.lt_trichotomy x i with a | a | a
  · rw [if_pos a, if_pos (by omega)]
  · subst a; rw [if_neg (by omega), if_pos rfl, if_pos (by omega)]
  · rw [if_neg (by omega), if_neg (by omega), if_pos hx, if_neg (by omega)]
    by_cases b : x = i + 1
    · subst b; rw [if_pos rfl]; exact (cnt_self E _).symm
    · rw [if_neg b, if_neg (by omega)]
theorem stL_end (E : Nat → Nat → Bool) (n j : Nat) : stL E n n j = rkL E n := by
  apply ext_nth (by simp)
  intro x hx
  rw [length_stL] at hx
  rw [nth_stL hx, nth_rkL hx]
  unfold upTo'
  rw [if_pos hx]
theorem stL_yes {E : Nat → Nat → Bool} {n i j : Nat} (hij : i < j) (hj : j < n) (h : E i j = true) : (stL E n i j).set i (nth (stL E n i j) i + 1) = stL E n i (j + 1) := by
  apply ext_nth (by simp)
  intro x hx
  simp at hx
  rw [nth_set' (by simp; omega), nth_stL hx, nth_stL hx, nth_stL (by omega)]
  unfold upTo'
  by_cases e : i = x
  · subst e
    rw [if_pos rfl, if_neg (by omega), if_pos rfl, if_neg (by omega), if_pos rfl]
    exact (cnt_yes (by unfold bef; rw [if_pos hij, h])).symm
  · rw [if_neg e]
    have e' : ¬ x = i := fun b => e b.symm
    by_cases a : x < i
    · rw [if_pos a, if_pos a]
    · rw [if_neg a, if_neg e', if_neg a, if_neg e']
      by_cases b : x < j
      · rw [if_pos b, if_pos (by omega)]
      · rw [if_neg b]
        by_cases c : x = j
        · subst c
          rw [if_pos (by omega)]
          exact (cnt_no (by unfold bef; rw [if_neg (by omega), if_pos hij, h]; rfl)).symm
        · rw [if_neg (by omega)]
theorem stL_no {E : Nat → Nat → Bool} {n i j : Nat} (hij : i < j) (hj : j < n) (h : E i j = false) : (stL E n i j).set j (nth (stL E n i j) j + 1) = stL E n i (j + 1) := by
  apply ext_nth (by simp)
  intro x hx
  simp at hx
  rw [nth_set' (by simp; omega), nth_stL hx, nth_stL hx, nth_stL (by omega)]
  unfold upTo'
  by_cases e : j = x
  · subst e
    rw [if_pos rfl, if_neg (by omega), if_neg (by omega), if_neg (by omega), if_neg (by omega), if_neg (by omega), if_pos (by omega)]
    exact (cnt_yes (by unfold bef; rw [if_neg (by omega), if_pos hij, h]; rfl)).symm
  · rw [if_neg e]
    by_cases a : x < i
    · rw [if_pos a, if_pos a]
    · rw [if_neg a, if_neg a]
      by_cases d : x = i
      · subst d
        rw [if_pos rfl, if_pos rfl]
        exact (cnt_no (by unfold bef; rw [if_pos hij, h])).symm
      · rw [if_neg d, if_neg d]
        by_cases b : x < j
        · rw [if_pos b, if_pos (by omega)]
        · rw [if_neg b, if_neg (by omega)]
theorem stL_bd {E : Nat → Nat → Bool} {n i j x : Nat} (h : x < n) (hi : i < n) (hj : j ≤ n) : 0 ≤ nth (stL E n i j) x ∧ nth (stL E n i j) x ≤ n := by
  rw [nth_stL h]
  have h1 := cnt_nonneg (bef E x) (upTo' n i j x)
  have h2 := cnt_le (bef E x) (upTo' n i j x)
  have h3 : upTo' n i j x ≤ n := by unfold upTo'; split <;> (try split) <;> (try split) <;> omega
  omega
theorem rkL_congr {E F : Nat → Nat → Bool} {n : Nat} (h : ∀ i j, i < j → j < n → E i j = F i j) : rkL E n = rkL F n := by
  apply ext_nth (by simp)
  intro x hx
  rw [length_rkL] at hx
  rw [nth_rkL hx, nth_rkL hx]
  apply cnt_congr
  intro y hy
  unfold bef
  split
  · exact h x y (by assumption) hy
  · split
    · rw [h y x (by assumption) hx]
    · rfl
theorem rk_compl (E : Nat → Nat → Bool) {n x : Nat} (h : x < n) : cnt (bef (fun i j => !E i j) x) n = (n : Int) - 1 - cnt (bef E x) n := by
  have key : ∀ k, k ≤ n → cnt (bef (fun i j => !E i j) x) k + cnt (bef E x) k = (k : Int) - (if x < k then 1 else 0) := by
    intro k
    induction k with
    | zero => intro _; simp [cnt]
    | succ k ih =>
      intro hk
      have := ih (by omega)
      rw [cnt_succ, cnt_succ]
      by_cases e : x = k
      · subst e
        have i1 : (if x < x + 1 then (1 : Int) else 0) = 1 := if_pos (by omega)
        have i2 : (if x < x then (1 : Int) else 0) = 0 := if_neg (by omega)
        rw [i2] at this
        rw [bef_irr, bef_irr, i1]
        simp; omega
      · have e2 : bef (fun i j => !E i j) x k = !bef E x k := by
          unfold bef
          rcases Nat.lt_or_gt_of_ne e with a | a
          · rw [if_pos a, if_pos a]
          · rw [if_neg (by omega), if_pos a, if_neg (by omega), if_pos a]
        rw [e2]
        have e3 : (if x < k + 1 then (1 : Int) else 0) = if x < k then 1 else 0 := by
          by_cases a : x < k
          · rw [if_pos a, if_pos (by omega)]
          · rw [if_neg a, if_neg (by omega)]
        rw [e3]
        cases bef E x k <;> simp <;> omega
  have := key n (Nat.le_refl _)
  rw [if_pos h] at this
  omega
/-- the opposite places -/
def turnF (l : List Int) : List Int := l.map fun x => (l.length : Int) - 1 - x
@[simp] theorem length_turnF (l : List Int) : (turnF l).length = l.length := by simp [turnF]
theorem nth_turnF {l : List Int} {i : Nat} (h : i < l.length) : nth (turnF l) i = (l.length : Int) - 1 - nth l i := by simp [nth, turnF, h]
theorem turn_rkL (E : Nat → Nat → Bool) (n : Nat) : turnF (rkL E n) = rkL (fun i j => !E i j) n := by
  apply ext_nth (by simp)
  intro x hx
  simp at hx
  rw [nth_turnF (by simpa using hx), nth_rkL hx, nth_rkL hx, rk_compl E hx, length_rkL]

/-- pairs that cross in one of two -/
def orR (a b : List Int) (i j : Nat) : Bool := decide (nth a j < nth a i) || decide (nth b j < nth b i)
/-- pairs that do not cross in one of two -/
def norR (a b : List Int) (i j : Nat) : Bool := !decide (nth a j < nth a i) || !decide (nth b j < nth b i)
/-- the join and the meet -/
def joinF (a b : List Int) : List Int := rkL (clos (orR a b)) a.length
def meetF (a b : List Int) : List Int := rkL (fun i j => !clos (norR a b) i j) a.length
theorem clos_congr {R S : Nat → Nat → Bool} {n : Nat} (h : ∀ i j, i < j → j < n → R i j = S i j) {i j : Nat} (hij : i < j) (hj : j < n) : clos R i j = clos S i j := by
  rw [← wars_eq hij hj, ← wars_eq hij hj]
  have key : ∀ K, K ≤ n → ∀ i j, i < j → j < n → wars R K i j = wars S K i j := by
    intro K
    induction K with
    | zero => intro _ i j a b; exact h i j a b
    | succ K ih =>
      intro hK i j a b
      by_cases c : i < K ∧ K < j
      · rw [wars_in c.1 c.2, wars_in c.1 c.2, ih (by omega) i j a b, ih (by omega) i K c.1 (by omega), ih (by omega) K j c.2 b]
      · rw [wars_out c, wars_out c, ih (by omega) i j a b]
  exact key n (Nat.le_refl _) i j hij hj
theorem turn_meet {a b : List Int} (ha : IsPerm a) (hb : IsPerm b) (hl : a.length = b.length) : turnF (joinF (turnF a) (turnF b)) = meetF a b := by
  unfold joinF meetF
  rw [length_turnF, turn_rkL]
  apply rkL_congr
  intro i j hij hj
  have e : ∀ i j, i < j → j < a.length → orR (turnF a) (turnF b) i j = norR a b i j := by
    intro i j hij hj
    unfold orR norR
    rw [nth_turnF hj, nth_turnF (by omega), nth_turnF (by omega), nth_turnF (by omega)]
    have n1 := ha.ne hj (show i < a.length by omega) (by omega)
    have n2 := hb.ne (show j < b.length by omega) (show i < b.length by omega) (by omega)
    rw [Bool.eq_iff_iff]
    simp only [Bool.or_eq_true, Bool.not_eq_true', decide_eq_true_eq, decide_eq_false_iff_not]
    omega
  rw [clos_congr e hij hj]

namespace Pm
variable {n : Nat}
theorem ofB_val {E : Nat → Nat → Bool} (hE : Bi n E) : (ofB n E hE).1 = rkL E n := by
  symm
  apply val_ext (by simp)
  intro i hi
  unfold ofB
  rw [nth_rkL hi, at_ofFn hi]
  have := cnt_nonneg (bef E i) n
  unfold rankB; omega
theorem cr_val (p : Pm n) {i j : Nat} (hi : i < n) (hj : j < n) : p.cr i j = decide (nth p.1 j < nth p.1 i) := by
  rw [p.nth_at hi, p.nth_at hj]
  unfold cr
  rw [decide_eq_decide]; omega
theorem meet_val (a b : Pm n) : (meet a b).1 = meetF a.1 b.1 := by
  unfold meet meetF
  rw [ofB_val, a.len]
  apply rkL_congr
  intro i j hij hj
  have e : ∀ i j, i < j → j < n → keepR a b i j = norR a.1 b.1 i j := by
    intro i j hij hj
    unfold keepR norR
    rw [cr_val a (by omega) hj, cr_val b (by omega) hj]
  rw [clos_congr e hij hj]
/-- the least permutation that has both as beginnings -/
def joinR (a b : Pm n) (i j : Nat) : Bool := a.cr i j || b.cr i j
theorem join_bi (a b : Pm n) : Bi n (clos (joinR a b)) := clos_no (A := a.cr) (B := b.cr) (fun _ _ _ _ => rfl) a.cr_bi b.cr_bi
def join (a b : Pm n) : Pm n := ofB n (clos (joinR a b)) (join_bi a b)
theorem join_val (a b : Pm n) : (join a b).1 = joinF a.1 b.1 := by
  unfold join joinF
  rw [ofB_val, a.len]
  apply rkL_congr
  intro i j hij hj
  have e : ∀ i j, i < j → j < n → joinR a b i j = orR a.1 b.1 i j := by
    intro i j hij hj
    unfold joinR orR
    rw [cr_val a (by omega) hj, cr_val b (by omega) hj]
  exact clos_congr e hij hj
theorem join_cross (a b : Pm n) {i j : Nat} (hij : i < j) (hj : j < n) : (join a b).at' j < (join a b).at' i ↔ clos (joinR a b) i j = true := by
  unfold join
  rw [ofB_cross _ hij hj]
theorem le_join_left (a b : Pm n) : le a (join a b) := by
  intro i j hij hj h
  rw [join_cross a b hij hj]
  exact clos_base hij (by simp [joinR, cr, h])
theorem le_join_right (a b : Pm n) : le b (join a b) := by
  intro i j hij hj h
  rw [join_cross a b hij hj]
  exact clos_base hij (by simp [joinR, cr, h])
theorem join_le {a b t : Pm n} (h1 : le a t) (h2 : le b t) : le (join a b) t := by
  intro i j hij hj h
  rw [join_cross a b hij hj] at h
  exact clos_ind (n := n) (P := fun i j => t.at' j < t.at' i) (R := joinR a b) (by
    intro i j hij hj hr
    simp only [joinR, cr, Bool.or_eq_true, decide_eq_true_eq] at hr
    rcases hr with hr | hr
    · exact h1 i j hij hj hr
    · exact h2 i j hij hj hr) (by intro i j k _ _ _ h3 h4; omega) hij hj h
theorem meet_join (a b : Pm n) : meet a (join a b) = a := le_antisymm _ _ (meet_le_left _ _) (le_meet (le_refl a) (le_join_left a b))
theorem join_meet (a b : Pm n) : join a (meet a b) = a := le_antisymm _ _ (join_le (le_refl a) (meet_le_left a b)) (le_join_left _ _)
theorem meet_comm (a b : Pm n) : meet a b = meet b a := le_antisymm _ _ (le_meet (meet_le_right a b) (meet_le_left a b)) (le_meet (meet_le_right b a) (meet_le_left b a))
theorem join_comm (a b : Pm n) : join a b = join b a := le_antisymm _ _ (join_le (le_join_right b a) (le_join_left b a)) (join_le (le_join_right a b) (le_join_left a b))
theorem meet_of_le {a b : Pm n} (h : le a b) : meet a b = a := le_antisymm _ _ (meet_le_left a b) (le_meet (le_refl a) h)
theorem join_of_le {a b : Pm n} (h : le a b) : join a b = b := le_antisymm _ _ (join_le h (le_refl b)) (le_join_right a b)
end Pm

end Go.Proofs.Ytgibgcjpehcemaa
