/- The lists of numbers of the program as permutations: composition, inverse, flip, letters in front and behind, the letters that can begin or end, the first letter that can be moved. Plain. -/
import Derived.Test.YtmeccemnmkobbaaMee
import Derived.Test.YtmeccemnmkobbaaGaw
import Derived.Test.YtmeccemnmkobbaaInv
import Derived.Test.YtmeccemnmkobbaaRwa
namespace Go.Proofs.Ytmeccemnmkobbaa

theorem nth_invTo {p : List Int} (hp : IsPerm p) {k : Nat} (hk : k ≤ p.length) : ∀ j, j < k → nth (invTo p k) (nth p j).toNat = j := by
  induction k with
  | zero => intro j hj; omega
  | succ k ih =>
    intro j hj
    have h0 := hp.lo (i := k) (by omega)
    have h1 := hp.hi (i := k) (by omega)
    have h2 := hp.lo (i := j) (by omega)
    rw [invTo, nth_set' (by rw [length_invTo]; omega)]
    by_cases e : k = j
    · subst e; simp
    · have := hp.ne (i := k) (j := j) (by omega) (by omega) e
      rw [if_neg (by omega)]
      exact ih (by omega) j (by omega)
theorem nth_invF {p : List Int} (hp : IsPerm p) {j : Nat} (hj : j < p.length) : nth (invF p) (nth p j).toNat = j := nth_invTo hp (Nat.le_refl _) j hj

namespace Pm
variable {n : Nat}
theorem len (p : Pm n) : p.1.length = n := p.2.1
theorem perm (p : Pm n) : IsPerm p.1 := p.2.2
theorem val_ext {p : Pm n} {l : List Int} (hl : l.length = n) (h : ∀ i, i < n → nth l i = (p.at' i : Int)) : l = p.1 := by
  apply ext_nth (by rw [hl, p.len])
  intro j hj
  rw [hl] at hj
  rw [h j hj, p.nth_at hj]
theorem comp_val (p q : Pm n) : compF p.1 q.1 = (mul p q).1 := by
  apply val_ext (by simp [p.len])
  intro i hi
  rw [nth_compF (by rw [p.len]; exact hi), at_mul _ _ hi, p.nth_at hi, Int.toNat_natCast, q.nth_at (p.lt hi)]
theorem inv_val (p : Pm n) : invF p.1 = (inv p).1 := by
  apply val_ext (by simp [p.len])
  intro i hi
  obtain ⟨j, hj, rfl⟩ := p.surj hi
  have := nth_invF p.perm (j := j) (by rw [p.len]; exact hj)
  rw [p.nth_at hj, Int.toNat_natCast] at this
  rw [this, at_inv _ hi, p.find_at hj]
theorem flip_val (p : Pm n) : flipF p.1 = ((gar n).tau p).1 := by
  apply val_ext (by simp [p.len])
  intro i hi
  have e : (gar n).tau p = mul (top n) (mul p (top n)) := rfl
  rw [e, at_mul _ _ hi, at_top hi, at_mul _ _ (by omega), at_top (p.lt (by omega))]
  have h1 : nth (flipF p.1) i = (p.1.length : Int) - 1 - nth p.1 (p.1.length - 1 - i) := by
    have : i < p.1.length := by rw [p.len]; exact hi
    simp [flipF, nth, this]
  rw [h1, p.len, p.nth_at (by omega)]
  have := p.lt (i := n - 1 - i) (by omega)
  omega
theorem idn_val (n : Nat) : idn n = (one n).1 := val_ext (length_idn n) fun i hi => by rw [nth_idn hi, at_one hi]
theorem half_val (n : Nat) : halfF n = (top n).1 := val_ext (length_halfF n) fun i hi => by rw [nth_halfF hi, at_top hi]; omega

/-- the exchange of the places k - 1 and k -/
def sgf (k i : Nat) : Nat := if i + 1 = k then k else if i = k then k - 1 else i
def sg (n k : Nat) (h : k < n) : Pm n := ofFn n (sgf k) (fun i hi => by unfold sgf; split; exact h; split <;> omega) (fun i j hi hj e => by
  unfold sgf at e
  split at e <;> split at e <;> (try split at e) <;> (try split at e) <;> omega)
theorem at_sg {k : Nat} (h : k < n) {i : Nat} (hi : i < n) : (sg n k h).at' i = sgf k i := at_ofFn hi
theorem sg_sg {k : Nat} (h : k < n) : mul (sg n k h) (sg n k h) = one n := ext fun i hi => by
  rw [at_mul _ _ hi, at_sg h hi, at_sg h (by unfold sgf; split; exact h; split <;> omega), at_one hi]
  unfold sgf
  repeat' split
  all_goals omega
theorem sg_inv {k : Nat} (h : k < n) : inv (sg n k h) = sg n k h := (gar n).mul_left (a := sg n k h) (by
  show mul _ _ = mul _ _
  rw [sg_sg h]; exact (gar n).mul_inv _)
/-- the letter k in front -/
theorem front_val (p : Pm n) {k : Nat} (h : k < n) (h0 : 0 < k) : swapAt p.1 (k - 1) = (mul (sg n k h) p).1 := by
  apply val_ext (by simp [p.len])
  intro i hi
  have hl := p.len
  rw [at_mul _ _ hi, at_sg h hi]
  unfold swapAt sgf
  rw [nth_set' (by simp; omega), nth_set' (by omega), show k - 1 + 1 = k by omega]
  by_cases e1 : k = i
  · subst e1
    rw [if_pos rfl, if_neg (by omega), if_pos rfl, p.nth_at (by omega)]
  · rw [if_neg e1]
    by_cases e2 : i + 1 = k
    · rw [if_pos (by omega), if_pos e2, p.nth_at h]
    · rw [if_neg (by omega), if_neg e2, if_neg (by omega), p.nth_at hi]
/-- the letter k behind, as a change of one number -/
def swv (k x : Int) : Int := if x = k - 1 then k else if x = k then k - 1 else x
theorem back_val (p : Pm n) {k : Nat} (h : k < n) (h0 : 0 < k) : p.1.map (swv k) = (mul p (sg n k h)).1 := by
  apply val_ext (by simp [p.len])
  intro i hi
  rw [nth_map _ (by rw [p.len]; exact hi), at_mul _ _ hi, at_sg h (p.lt hi), p.nth_at hi]
  unfold swv sgf
  repeat' split
  all_goals omega

theorem le_sg (p : Pm n) {k : Nat} (h : k < n) (h0 : 0 < k) : le (sg n k h) p ↔ p.at' k < p.at' (k - 1) := by
  constructor
  · intro hle
    refine hle (k - 1) k (by omega) h ?_
    rw [at_sg h h, at_sg h (by omega)]
    unfold sgf
    rw [if_neg (by omega), if_pos rfl, if_pos (by omega)]; omega
  · intro hlt i j hij hj hc
    rw [at_sg h hj, at_sg h (by omega)] at hc
    unfold sgf at hc
    have : i = k - 1 ∧ j = k := by
      repeat' split at hc
      all_goals omega
    rw [this.1, this.2]; exact hlt
theorem red_sg (p : Pm n) {k : Nat} (h : k < n) (h0 : 0 < k) : (gar n).red p (sg n k h) ↔ p.inv.at' (k - 1) < p.inv.at' k := by
  have hk1 : k - 1 < n := by omega
  obtain ⟨i0, hi0, e0⟩ := p.surj hk1
  obtain ⟨i1, hi1, e1⟩ := p.surj h
  have f0 : p.inv.at' (k - 1) = i0 := by rw [at_inv _ hk1, ← e0, p.find_at hi0]
  have f1 : p.inv.at' k = i1 := by rw [at_inv _ h, ← e1, p.find_at hi1]
  rw [f0, f1]
  constructor
  · intro hr
    rcases Nat.lt_trichotomy i0 i1 with h1 | h1 | h1
    · exact h1
    · subst h1; omega
    · exfalso
      have := hr i1 i0 h1 hi0 (by omega)
      rw [show (gar n).mul p (sg n k h) = mul p (sg n k h) from rfl, at_mul _ _ hi0, at_mul _ _ hi1, at_sg h (p.lt hi0), at_sg h (p.lt hi1), e0, e1] at this
      unfold sgf at this
      rw [if_pos (by omega), if_neg (by omega), if_pos rfl] at this
      omega
  · intro hlt i j hij hj hc
    have hi : i < n := by omega
    rw [show (gar n).mul p (sg n k h) = mul p (sg n k h) from rfl, at_mul _ _ hi, at_mul _ _ hj, at_sg h (p.lt hi), at_sg h (p.lt hj)]
    have key : ¬ (p.at' i = k ∧ p.at' j = k - 1) := by
      rintro ⟨a, b⟩
      have := p.inj hi hi1 (by omega)
      have := p.inj hj hi0 (by omega)
      omega
    unfold sgf
    repeat' split
    all_goals omega

theorem mem_startF (p : Pm n) {x : Int} : x ∈ startF p.1 ↔ ∃ k : Nat, x = k ∧ 0 < k ∧ k < n ∧ p.at' k < p.at' (k - 1) := by
  unfold startF listTo
  rw [List.mem_map]
  have hl := p.len
  constructor
  · rintro ⟨i, hi, rfl⟩
    rw [List.mem_filter, List.mem_range] at hi
    obtain ⟨h1, h2⟩ := hi
    rw [hl] at h1
    refine ⟨i + 1, by omega, by omega, by omega, ?_⟩
    unfold isDesc at h2
    rw [decide_eq_true_eq, p.nth_at (by omega), p.nth_at (by omega)] at h2
    rw [show i + 1 - 1 = i by omega]; omega
  · rintro ⟨k, rfl, h0, h, hc⟩
    refine ⟨k - 1, ?_, by omega⟩
    rw [List.mem_filter, List.mem_range, hl]
    refine ⟨by omega, ?_⟩
    unfold isDesc
    rw [decide_eq_true_eq, show k - 1 + 1 = k by omega, p.nth_at h, p.nth_at (by omega)]
    omega
theorem start_iff (p : Pm n) {k : Nat} (h : k < n) (h0 : 0 < k) : (k : Int) ∈ startF p.1 ↔ le (sg n k h) p := by
  rw [mem_startF, le_sg p h h0]
  constructor
  · rintro ⟨j, e, _, _, hc⟩
    obtain rfl : k = j := by omega
    exact hc
  · intro hc; exact ⟨k, rfl, h0, h, hc⟩
theorem finish_iff (p : Pm n) {k : Nat} (h : k < n) (h0 : 0 < k) : (k : Int) ∈ startF (invF p.1) ↔ ¬ (gar n).red p (sg n k h) := by
  rw [inv_val, start_iff _ h h0, le_sg _ h h0, red_sg p h h0]
  have : p.inv.at' (k - 1) ≠ p.inv.at' k := fun e => by have := p.inv.inj (by omega) h e; omega
  omega

/-- a permutation without descents moves nothing -/
theorem one_of_sorted (p : Pm n) (hs : ∀ k, 0 < k → k < n → ¬ p.at' k < p.at' (k - 1)) : p = one n := by
  have mono : ∀ i j, i < j → j < n → p.at' i < p.at' j := by
    intro i j hij hj
    induction j with
    | zero => omega
    | succ j ih =>
      have h1 := hs (j + 1) (by omega) hj
      rw [show j + 1 - 1 = j by omega] at h1
      have hne : p.at' (j + 1) ≠ p.at' j := fun e => by have := p.inj hj (by omega) e; omega
      by_cases e : i = j
      · subst e; omega
      · have := ih (by omega) (by omega); omega
  apply le_antisymm _ _ _ (one_le p)
  intro i j hij hj hc
  have := mono i j hij hj
  omega
theorem has_start (p : Pm n) (hp : p ≠ one n) : ∃ k, ∃ h : k < n, 0 < k ∧ le (sg n k h) p := by
  rcases Classical.em (∃ k, ∃ h : k < n, 0 < k ∧ le (sg n k h) p) with h | h
  · exact h
  · exfalso
    apply hp
    apply one_of_sorted
    intro k h0 hk hc
    exact h ⟨k, hk, h0, (le_sg p hk h0).2 hc⟩
end Pm

theorem hasF_iff (l : List Int) (x : Int) : hasF l x = true ↔ x ∈ l := by
  unfold hasF
  rw [List.any_eq_true]
  constructor
  · rintro ⟨j, hj, e⟩
    rw [List.mem_range] at hj
    have e' : nth l j = x := by simpa using e
    rw [← e']; simp [nth, hj]
  · intro h
    obtain ⟨j, hj, rfl⟩ := List.getElem_of_mem h
    exact ⟨j, by simpa using hj, by simp [nth, hj]⟩

namespace Pm
variable {n : Nat}
theorem extra_ne (p q : Pm n) (h : extraF p.1 q.1 ≠ 0) : ∃ k, ∃ hk : k < n, 0 < k ∧ extraF p.1 q.1 = k ∧ le (sg n k hk) q ∧ (gar n).red p (sg n k hk) := by
  unfold extraF at h ⊢
  cases e : (startF q.1).find? fun k => !hasF (startF (invF p.1)) k with
  | none => rw [e] at h; exact absurd rfl h
  | some x =>
    have h1 := List.mem_of_find?_eq_some e
    have h2 := List.find?_some e
    obtain ⟨k, rfl, h0, hk, hc⟩ := (mem_startF q).1 h1
    refine ⟨k, hk, h0, rfl, (le_sg q hk h0).2 hc, ?_⟩
    have h3 : ¬ (k : Int) ∈ startF (invF p.1) := by
      intro hm
      rw [(hasF_iff _ _).2 hm] at h2; cases h2
    rw [finish_iff p hk h0] at h3
    exact Classical.not_not.1 h3
theorem extra_zero (p q : Pm n) (h : extraF p.1 q.1 = 0) : (gar n).M p q = (gar n).one := by
  rcases Classical.em ((gar n).M p q = one n) with h1 | h1
  · exact h1
  · exfalso
    obtain ⟨k, hk, h0, hle⟩ := has_start _ h1
    have h2 : le (sg n k hk) q := le_trans _ _ _ hle ((gar n).M_le p q)
    have h3 : (gar n).red p (sg n k hk) := ((gar n).prod hle ((gar n).red_M p q)).1
    unfold extraF at h
    cases e : (startF q.1).find? fun k => !hasF (startF (invF p.1)) k with
    | none =>
      rw [List.find?_eq_none] at e
      have := e k ((start_iff q hk h0).2 h2)
      rw [Bool.not_eq_true, Bool.not_eq_false', hasF_iff, finish_iff p hk h0] at this
      exact this h3
    | some x =>
      rw [e] at h
      have hx := List.mem_of_find?_eq_some e
      obtain ⟨k', rfl, h0', _, _⟩ := (mem_startF q).1 hx
      simp at h; omega
theorem extra_iff (p q : Pm n) : extraF p.1 q.1 = 0 ↔ (gar n).M p q = (gar n).one := by
  refine ⟨extra_zero p q, fun h => ?_⟩
  rcases Classical.em (extraF p.1 q.1 = 0) with h1 | h1
  · exact h1
  · exfalso
    obtain ⟨k, hk, h0, _, h2, h3⟩ := extra_ne p q h1
    have h4 := (gar n).M_max p q (sg n k hk) h2 h3
    rw [h] at h4
    have h5 := (gar n).le_one h4
    have : (sg n k hk).at' k = (gar n).one.at' k := by rw [h5]
    rw [at_sg hk hk, show (gar n).one = one n from rfl, at_one hk] at this
    unfold sgf at this
    rw [if_neg (by omega), if_pos rfl] at this
    omega
/-- the first letter that can be moved is moved -/
theorem move_eqv (p q : Pm n) {k : Nat} (hk : k < n) (h2 : le (sg n k hk) q) (h3 : (gar n).red p (sg n k hk)) : (gar n).Eqv [p, q] [mul p (sg n k hk), mul (sg n k hk) q] := by
  have := (gar n).eqv_move h3 h2
  rw [show (gar n).inv (sg n k hk) = sg n k hk from sg_inv hk] at this
  exact this
end Pm

end Go.Proofs.Ytmeccemnmkobbaa
