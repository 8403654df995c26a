/- Contracts: the normal form of a word, in the reference. -/
import Derived.Test.YtkgdbobhppmaiaaDoorGaw
import Derived.Test.YtkgdbobhppmaiaaDoorInv
import Derived.Test.YtkgdbobhppmaiaaDoorRwb
import Derived.Test.YtkgdbobhppmaiaaDoorNob
import Derived.Test.YtkgdbobhppmaiaaDoorBrd
import Derived.Deep.RegionHeld3
import Derived.Deep.LoopGhost
import Derived.Test.YtkgdbobhppmaiaaDoorSwp
import Derived.Test.YtkgdbobhppmaiaaDoorBre
namespace Go.Proofs.YtkgdbobhppmaiaaDoor

theorem nth_invTo {p : List Int} (hp : IsPerm p) {k : Nat} (hk : k ≤ p.length) : ∀ j, j < k → nth (invTo p k) (nth p j).toNat = j := by
  induction k with
  | zero => intro j hj; omega
  | succ k ih =>
    intro j hj
    have h0 := hp.lo (i := k) (by omega)
    have h1 := hp.hi (i := k) (by omega)
    have h2 := hp.lo (i := j) (by omega)
    rw [invTo, nth_set' (by rw [length_invTo]; omega)]
    by_cases e : k = j
    · subst e; simp
    · have := hp.ne (i := k) (j := j) (by omega) (by omega) e
      rw [if_neg (by omega)]
      exact ih (by omega) j (by omega)
theorem nth_invF {p : List Int} (hp : IsPerm p) {j : Nat} (hj : j < p.length) : nth (invF p) (nth p j).toNat = j := nth_invTo hp (Nat.le_refl _) j hj

namespace Pm
variable {n : Nat}
theorem len (p : Pm n) : p.1.length = n := p.2.1
theorem perm (p : Pm n) : IsPerm p.1 := p.2.2
theorem val_ext {p : Pm n} {l : List Int} (hl : l.length = n) (h : ∀ i, i < n → nth l i = (p.at' i : Int)) : l = p.1 := by
  apply ext_nth (by rw [hl, p.len])
  intro j hj
  rw [hl] at hj
  rw [h j hj, p.nth_at hj]
theorem comp_val (p q : Pm n) : compF p.1 q.1 = (mul p q).1 := by
  apply val_ext (by simp [p.len])
  intro i hi
  rw [nth_compF (by rw [p.len]; exact hi), at_mul _ _ hi, p.nth_at hi, Int.toNat_natCast, q.nth_at (p.lt hi)]
theorem inv_val (p : Pm n) : invF p.1 = (inv p).1 := by
  apply val_ext (by simp [p.len])
  intro i hi
  obtain ⟨j, hj, rfl⟩ := p.surj hi
  have := nth_invF p.perm (j := j) (by rw [p.len]; exact hj)
  rw [p.nth_at hj, Int.toNat_natCast] at this
  rw [this, at_inv _ hi, p.find_at hj]
theorem flip_val (p : Pm n) : flipF p.1 = ((gar n).tau p).1 := by
  apply val_ext (by simp [p.len])
  intro i hi
  have e : (gar n).tau p = mul (top n) (mul p (top n)) := rfl
  rw [e, at_mul _ _ hi, at_top hi, at_mul _ _ (by omega), at_top (p.lt (by omega))]
  have h1 : nth (flipF p.1) i = (p.1.length : Int) - 1 - nth p.1 (p.1.length - 1 - i) := by
    have : i < p.1.length := by rw [p.len]; exact hi
    simp [flipF, nth, this]
  rw [h1, p.len, p.nth_at (by omega)]
  have := p.lt (i := n - 1 - i) (by omega)
  omega
theorem idn_val (n : Nat) : idn n = (one n).1 := val_ext (length_idn n) fun i hi => by rw [nth_idn hi, at_one hi]
theorem half_val (n : Nat) : halfF n = (top n).1 := val_ext (length_halfF n) fun i hi => by rw [nth_halfF hi, at_top hi]; omega

/-- the exchange of the places k - 1 and k -/
def sgf (k i : Nat) : Nat := if i + 1 = k then k else if i = k then k - 1 else i
def sg (n k : Nat) (h : k < n) : Pm n := ofFn n (sgf k) (fun i hi => by unfold sgf; split; exact h; split <;> omega) (fun i j hi hj e => by
  unfold sgf at e
  split at e <;> split at e <;> (try split at e) <;> (try split at e) <;> omega)
theorem at_sg {k : Nat} (h : k < n) {i : Nat} (hi : i < n) : (sg n k h).at' i = sgf k i := at_ofFn hi
theorem sg_sg {k : Nat} (h : k < n) : mul (sg n k h) (sg n k h) = one n := ext fun i hi => by
  rw [at_mul _ _ hi, at_sg h hi, at_sg h (by unfold sgf; split; exact h; split <;> omega), at_one hi]
  unfold sgf
  repeat' split
  all_goals omega
theorem sg_inv {k : Nat} (h : k < n) : inv (sg n k h) = sg n k h := (gar n).mul_left (a := sg n k h) (by
  show mul _ _ = mul _ _
  rw [sg_sg h]; exact (gar n).mul_inv _)
/-- the letter k in front -/
theorem front_val (p : Pm n) {k : Nat} (h : k < n) (h0 : 0 < k) : swapAt p.1 (k - 1) = (mul (sg n k h) p).1 := by
  apply val_ext (by simp [p.len])
  intro i hi
  have hl := p.len
  rw [at_mul _ _ hi, at_sg h hi]
  unfold swapAt sgf
  rw [nth_set' (by simp; omega), nth_set' (by omega), show k - 1 + 1 = k by omega]
  by_cases e1 : k = i
  · subst e1
    rw [if_pos rfl, if_neg (by omega), if_pos rfl, p.nth_at (by omega)]
  · rw [if_neg e1]
    by_cases e2 : i + 1 = k
    · rw [if_pos (by omega), if_pos e2, p.nth_at h]
    · rw [if_neg (by omega), if_neg e2, if_neg (by omega), p.nth_at hi]
/-- the letter k behind, as a change of one number -/
def swv (k x : Int) : Int := if x = k - 1 then k else if x = k then k - 1 else x
theorem back_val (p : Pm n) {k : Nat} (h : k < n) (h0 : 0 < k) : p.1.map (swv k) = (mul p (sg n k h)).1 := by
  apply val_ext (by simp [p.len])
  intro i hi
  rw [nth_map _ (by rw [p.len]; exact hi), at_mul _ _ hi, at_sg h (p.lt hi), p.nth_at hi]
  unfold swv sgf
  repeat' split
  all_goals omega

theorem le_sg (p : Pm n) {k : Nat} (h : k < n) (h0 : 0 < k) : le (sg n k h) p ↔ p.at' k < p.at' (k - 1) := by
  constructor
  · intro hle
    refine hle (k - 1) k (by omega) h ?_
    rw [at_sg h h, at_sg h (by omega)]
    unfold sgf
    rw [if_neg (by omega), if_pos rfl, if_pos (by omega)]; omega
  · intro hlt i j hij hj hc
    rw [at_sg h hj, at_sg h (by omega)] at hc
    unfold sgf at hc
    have : i = k - 1 ∧ j = k := by
      repeat' split at hc
      all_goals omega
    rw [this.1, this.2]; exact hlt
theorem red_sg (p : Pm n) {k : Nat} (h : k < n) (h0 : 0 < k) : (gar n).red p (sg n k h) ↔ p.inv.at' (k - 1) < p.inv.at' k := by
  have hk1 : k - 1 < n := by omega
  obtain ⟨i0, hi0, e0⟩ := p.surj hk1
  obtain ⟨i1, hi1, e1⟩ := p.surj h
  have f0 : p.inv.at' (k - 1) = i0 := by rw [at_inv _ hk1, ← e0, p.find_at hi0]
  have f1 : p.inv.at' k = i1 := by rw [at_inv _ h, ← e1, p.find_at hi1]
  rw [f0, f1]
  constructor
  · intro hr
    rcases Nat.lt_trichotomy i0 i1 with h1 | h1 | h1
    · exact h1
    · subst h1; omega
    · exfalso
      have := hr i1 i0 h1 hi0 (by omega)
      rw [show (gar n).mul p (sg n k h) = mul p (sg n k h) from rfl, at_mul _ _ hi0, at_mul _ _ hi1, at_sg h (p.lt hi0), at_sg h (p.lt hi1), e0, e1] at this
      unfold sgf at this
      rw [if_pos (by omega), if_neg (by omega), if_pos rfl] at this
      omega
  · intro hlt i j hij hj hc
    have hi : i < n := by omega
    rw [show (gar n).mul p (sg n k h) = mul p (sg n k h) from rfl, at_mul _ _ hi, at_mul _ _ hj, at_sg h (p.lt hi), at_sg h (p.lt hj)]
    have key : ¬ (p.at' i = k ∧ p.at' j = k - 1) := by
      rintro ⟨a, b⟩
      have := p.inj hi hi1 (by omega)
      have := p.inj hj hi0 (by omega)
      omega
    unfold sgf
    repeat' split
    all_goals omega

theorem mem_startF (p : Pm n) {x : Int} : x ∈ startF p.1 ↔ ∃ k : Nat, x = k ∧ 0 < k ∧ k < n ∧ p.at' k < p.at' (k - 1) := by
  unfold startF listTo
  rw [List.mem_map]
  have hl := p.len
  constructor
  · rintro ⟨i, hi, rfl⟩
    rw [List.mem_filter, List.mem_range] at hi
    obtain ⟨h1, h2⟩ := hi
    rw [hl] at h1
    refine ⟨i + 1, by omega, by omega, by omega, ?_⟩
    unfold isDesc at h2
    rw [decide_eq_true_eq, p.nth_at (by omega), p.nth_at (by omega)] at h2
    rw [show i + 1 - 1 = i by omega]; omega
  · rintro ⟨k, rfl, h0, h, hc⟩
    refine ⟨k - 1, ?_, by omega⟩
    rw [List.mem_filter, List.mem_range, hl]
    refine ⟨by omega, ?_⟩
    unfold isDesc
    rw [decide_eq_true_eq, show k - 1 + 1 = k by omega, p.nth_at h, p.nth_at (by omega)]
    omega
theorem start_iff (p : Pm n) {k : Nat} (h : k < n) (h0 : 0 < k) : (k : Int) ∈ startF p.1 ↔ le (sg n k h) p := by
  rw [mem_startF, le_sg p h h0]
  constructor
  · rintro ⟨j, e, _, _, hc⟩
    obtain rfl : k = j := by omega
    exact hc
  · intro hc; exact ⟨k, rfl, h0, h, hc⟩
theorem finish_iff (p : Pm n) {k : Nat} (h : k < n) (h0 : 0 < k) : (k : Int) ∈ startF (invF p.1) ↔ ¬ (gar n).red p (sg n k h) := by
  rw [inv_val, start_iff _ h h0, le_sg _ h h0, red_sg p h h0]
  have : p.inv.at' (k - 1) ≠ p.inv.at' k := fun e => by have := p.inv.inj (by omega) h e; omega
  omega

/-- a permutation without descents moves nothing -/
theorem one_of_sorted (p : Pm n) (hs : ∀ k, 0 < k → k < n → ¬ p.at' k < p.at' (k - 1)) : p = one n := by
  have mono : ∀ i j, i < j → j < n → p.at' i < p.at' j := by
    intro i j hij hj
    induction j with
    | zero => omega
    | succ j ih =>
      have h1 := hs (j + 1) (by omega) hj
      rw [show j + 1 - 1 = j by omega] at h1
      have hne : p.at' (j + 1) ≠ p.at' j := fun e => by have := p.inj hj (by omega) e; omega
      by_cases e : i = j
      · subst e; omega
      · have := ih (by omega) (by omega); omega
  apply le_antisymm _ _ _ (one_le p)
  intro i j hij hj hc
  have := mono i j hij hj
  omega
theorem has_start (p : Pm n) (hp : p ≠ one n) : ∃ k, ∃ h : k < n, 0 < k ∧ le (sg n k h) p := by
  rcases Classical.em (∃ k, ∃ h : k < n, 0 < k ∧ le (sg n k h) p) with h | h
  · exact h
  · exfalso
    apply hp
    apply one_of_sorted
    intro k h0 hk hc
    exact h ⟨k, hk, h0, (le_sg p hk h0).2 hc⟩
end Pm

theorem hasF_iff (l : List Int) (x : Int) : hasF l x = true ↔ x ∈ l := by
  unfold hasF
  rw [List.any_eq_true]
  constructor
  · rintro ⟨j, hj, e⟩
    rw [List.mem_range] at hj
    have e' : nth l j = x := by simpa using e
    rw [← e']; simp [nth, hj]
  · intro h
    obtain ⟨j, hj, rfl⟩ := List.getElem_of_mem h
    exact ⟨j, by simpa using hj, by simp [nth, hj]⟩

namespace Pm
variable {n : Nat}
theorem extra_ne (p q : Pm n) (h : extraF p.1 q.1 ≠ 0) : ∃ k, ∃ hk : k < n, 0 < k ∧ extraF p.1 q.1 = k ∧ le (sg n k hk) q ∧ (gar n).red p (sg n k hk) := by
  unfold extraF at h ⊢
  cases e : (startF q.1).find? fun k => !hasF (startF (invF p.1)) k with
  | none => rw [e] at h; exact absurd rfl h
  | some x =>
    have h1 := List.mem_of_find?_eq_some e
    have h2 := List.find?_some e
    obtain ⟨k, rfl, h0, hk, hc⟩ := (mem_startF q).1 h1
    refine ⟨k, hk, h0, rfl, (le_sg q hk h0).2 hc, ?_⟩
    have h3 : ¬ (k : Int) ∈ startF (invF p.1) := by
      intro hm
      rw [(hasF_iff _ _).2 hm] at h2; cases h2
    rw [finish_iff p hk h0] at h3
    exact Classical.not_not.1 h3
theorem extra_zero (p q : Pm n) (h : extraF p.1 q.1 = 0) : (gar n).M p q = (gar n).one := by
  rcases Classical.em ((gar n).M p q = one n) with h1 | h1
  · exact h1
  · exfalso
    obtain ⟨k, hk, h0, hle⟩ := has_start _ h1
    have h2 : le (sg n k hk) q := le_trans _ _ _ hle ((gar n).M_le p q)
    have h3 : (gar n).red p (sg n k hk) := ((gar n).prod hle ((gar n).red_M p q)).1
    unfold extraF at h
    cases e : (startF q.1).find? fun k => !hasF (startF (invF p.1)) k with
    | none =>
      rw [List.find?_eq_none] at e
      have := e k ((start_iff q hk h0).2 h2)
      rw [Bool.not_eq_true, Bool.not_eq_false', hasF_iff, finish_iff p hk h0] at this
      exact this h3
    | some x =>
      rw [e] at h
      have hx := List.mem_of_find?_eq_some e
      obtain ⟨k', rfl, h0', _, _⟩ := (mem_startF q).1 hx
      simp at h; omega
theorem extra_iff (p q : Pm n) : extraF p.1 q.1 = 0 ↔ (gar n).M p q = (gar n).one := by
  refine ⟨extra_zero p q, fun h => ?_⟩
  rcases Classical.em (extraF p.1 q.1 = 0) with h1 | h1
  · exact h1
  · exfalso
    obtain ⟨k, hk, h0, _, h2, h3⟩ := extra_ne p q h1
    have h4 := (gar n).M_max p q (sg n k hk) h2 h3
    rw [h] at h4
    have h5 := (gar n).le_one h4
    have : (sg n k hk).at' k = (gar n).one.at' k := by rw [h5]
    rw [at_sg hk hk, show (gar n).one = one n from rfl, at_one hk] at this
    unfold sgf at this
    rw [if_neg (by omega), if_pos rfl] at this
    omega
/-- the first letter that can be moved is moved -/
theorem move_eqv (p q : Pm n) {k : Nat} (hk : k < n) (h2 : le (sg n k hk) q) (h3 : (gar n).red p (sg n k hk)) : (gar n).Eqv [p, q] [mul p (sg n k hk), mul (sg n k hk) q] := by
  have := (gar n).eqv_move h3 h2
  rw [show (gar n).inv (sg n k hk) = sg n k hk from sg_inv hk] at this
  exact this
end Pm

end Go.Proofs.YtkgdbobhppmaiaaDoor

namespace Go.Proofs.YtkgdbobhppmaiaaDoor

namespace Pm
variable {n : Nat}
/-- the number of inversions -/
def ni (p : Pm n) : Int := invsF p.1
theorem ni_nonneg (p : Pm n) : 0 ≤ ni p := invsF_nonneg _
theorem ni_front (q : Pm n) {k : Nat} (hk : k < n) (h0 : 0 < k) (h : le (sg n k hk) q) : ni (mul (sg n k hk) q) = ni q - 1 := by
  unfold ni
  rw [← front_val q hk h0]
  have hl := q.len
  apply invs_desc (by omega)
  have := (le_sg q hk h0).1 h
  rw [show k - 1 + 1 = k by omega, q.nth_at hk, q.nth_at (by omega)]; omega
theorem ni_pairs (p : Pm n) : ni p = sumTo (fun j => sumTo (fun i => if decide (i < j) && decide (p.at' j < p.at' i) then 1 else 0) n) n := by
  unfold ni invsF
  rw [p.len]
  apply sumTo_congr
  intro j hj
  rw [← cnt_sum]
  have : ∀ m, j ≤ m → m ≤ n → cnt (fun i => decide (nth p.1 j < nth p.1 i)) j = cnt (fun i => decide (i < j) && decide (p.at' j < p.at' i)) m := by
    intro m hm hmn
    induction m with
    | zero => obtain rfl : j = 0 := by omega
              rfl
    | succ m ih =>
      by_cases e : j = m + 1
      · subst e
        apply cnt_congr
        intro i hi
        rw [p.nth_at hj, p.nth_at (by omega)]
        have h1 : decide (i < m + 1) = true := by rw [decide_eq_true_eq]; exact hi
        rw [h1, Bool.true_and, decide_eq_decide]; omega
      · rw [cnt_succ, ← ih (by omega) (by omega)]
        have h1 : decide (m < j) = false := by rw [decide_eq_false_iff_not]; omega
        simp [h1]
  exact this n (by omega) (Nat.le_refl _)
theorem ni_back (p : Pm n) {k : Nat} (hk : k < n) (h0 : 0 < k) (h : (gar n).red p (sg n k hk)) : ni (mul p (sg n k hk)) = ni p + 1 := by
  have h1 := (red_sg p hk h0).1 h
  have hk1 : k - 1 < n := by omega
  obtain ⟨i0, hi0, e0⟩ := p.surj hk1
  obtain ⟨i1, hi1, e1⟩ := p.surj hk
  rw [at_inv _ hk1, at_inv _ hk] at h1
  have f0 : p.find (k - 1) = i0 := by rw [← e0, p.find_at hi0]
  have f1 : p.find k = i1 := by rw [← e1, p.find_at hi1]
  rw [f0, f1] at h1
  rw [ni_pairs, ni_pairs]
  have key : ∀ i j, i < n → j < n → ¬ (i = i0 ∧ j = i1) → i < j → (((mul p (sg n k hk)).at' j < (mul p (sg n k hk)).at' i) ↔ (p.at' j < p.at' i)) := by
    intro i j hi hj hne hij
    rw [at_mul _ _ hi, at_mul _ _ hj, at_sg hk (p.lt hi), at_sg hk (p.lt hj)]
    have a1 : p.at' i = k - 1 → i = i0 := fun e => p.inj hi hi0 (by omega)
    have a2 : p.at' i = k → i = i1 := fun e => p.inj hi hi1 (by omega)
    have a3 : p.at' j = k - 1 → j = i0 := fun e => p.inj hj hi0 (by omega)
    have a4 : p.at' j = k → j = i1 := fun e => p.inj hj hi1 (by omega)
    have a5 : p.at' i ≠ p.at' j := fun e => by have := p.inj hi hj e; omega
    unfold sgf
    repeat' split
    all_goals (first | omega | (constructor <;> intro _ <;> omega))
  apply sum_one hi1
  · intro j hj hne
    apply sumTo_congr
    intro i hi
    by_cases hij : i < j
    · have := key i j hi hj (by omega) hij
      simp only [hij, decide_true, Bool.true_and]
      rw [show decide ((mul p (sg n k hk)).at' j < (mul p (sg n k hk)).at' i) = decide (p.at' j < p.at' i) from decide_eq_decide.2 this]
    · simp [hij]
  · apply sum_one hi0
    · intro i hi hne
      by_cases hij : i < i1
      · have := key i i1 hi hi1 (by omega) hij
        simp only [hij, decide_true, Bool.true_and]
        rw [show decide ((mul p (sg n k hk)).at' i1 < (mul p (sg n k hk)).at' i) = decide (p.at' i1 < p.at' i) from decide_eq_decide.2 this]
      · simp [hij]
    · have a1 : (mul p (sg n k hk)).at' i1 = k - 1 := by
        rw [at_mul _ _ hi1, at_sg hk (p.lt hi1), e1]; unfold sgf; rw [if_neg (by omega), if_pos rfl]
      have a2 : (mul p (sg n k hk)).at' i0 = k := by
        rw [at_mul _ _ hi0, at_sg hk (p.lt hi0), e0]; unfold sgf; rw [if_pos (by omega)]
      rw [a1, a2, e0, e1]
      have b1 : decide (i0 < i1) = true := by rw [decide_eq_true_eq]; exact h1
      have b2 : decide (k - 1 < k) = true := by rw [decide_eq_true_eq]; omega
      have b3 : decide (k < k - 1) = false := by rw [decide_eq_false_iff_not]; omega
      rw [b1, b2, b3]; simp
theorem ni_one : ni (one n) = 0 := by
  rw [ni_pairs]
  have : ∀ j, j < n → sumTo (fun i => if decide (i < j) && decide ((one n).at' j < (one n).at' i) then 1 else 0) n = 0 := by
    intro j hj
    rw [sumTo_congr (g := fun _ => 0), sumTo_zero]
    intro i hi
    rw [at_one hi, at_one hj]
    by_cases h : i < j
    · have : ¬ j < i := by omega
      simp [h, this]
    · simp [h]
  rw [sumTo_congr (g := fun _ => 0) this, sumTo_zero]
/-- what holds of the permutation that moves nothing and stays when a letter is put in front holds of all -/
theorem front_ind {P : Pm n → Prop} (h1 : P (one n)) (hs : ∀ q k (hk : k < n), 0 < k → le (sg n k hk) q → P (mul (sg n k hk) q) → P q) (p : Pm n) : P p := by
  have : ∀ m : Nat, ∀ p : Pm n, ni p ≤ m → P p := by
    intro m
    induction m with
    | zero =>
      intro p hp
      rcases Classical.em (p = one n) with e | e
      · rw [e]; exact h1
      · obtain ⟨k, hk, h0, hle⟩ := has_start p e
        have a1 := ni_front p hk h0 hle
        have a2 := ni_nonneg (mul (sg n k hk) p)
        omega
    | succ m ih =>
      intro p hp
      rcases Classical.em (p = one n) with e | e
      · rw [e]; exact h1
      · obtain ⟨k, hk, h0, hle⟩ := has_start p e
        have a1 := ni_front p hk h0 hle
        exact hs p k hk h0 hle (ih _ (by omega))
  exact this (ni p).toNat p (by have := ni_nonneg p; omega)
theorem mul_inv_rev (a b : Pm n) : inv (mul a b) = mul (inv b) (inv a) := (gar n).mul_left (a := mul a b) (by
  show mul (mul a b) (inv (mul a b)) = mul (mul a b) (mul (inv b) (inv a))
  rw [mul_inv, assoc, ← assoc b, mul_inv, one_mul, mul_inv])
theorem inv_one : inv (one n) = one n := (gar n).mul_left (a := one n) (by
  show mul (one n) (inv (one n)) = mul (one n) (one n)
  rw [mul_inv, one_mul])
theorem inv_inv (a : Pm n) : inv (inv a) = a := (gar n).mul_left (a := inv a) (by
  show mul (inv a) (inv (inv a)) = mul (inv a) a
  rw [mul_inv, inv_mul])
theorem ni_inv (p : Pm n) : ni (inv p) = ni p := by
  refine front_ind (P := fun p => ni (inv p) = ni p) ?_ ?_ p
  · rw [inv_one]
  · intro q k hk h0 hle ih
    have a1 := ni_front q hk h0 hle
    have e : inv q = mul (inv (mul (sg n k hk) q)) (sg n k hk) := by
      rw [mul_inv_rev, sg_inv hk, assoc, sg_sg hk, mul_one]
    have hr : (gar n).red (inv (mul (sg n k hk) q)) (sg n k hk) := by
      rw [red_sg _ hk h0, inv_inv, at_mul _ _ hk, at_mul _ _ (by omega), at_sg hk hk, at_sg hk (by omega)]
      have := (le_sg q hk h0).1 hle
      unfold sgf
      rw [if_pos (by omega), if_neg (by omega), if_pos rfl]; exact this
    have a2 := ni_back _ hk h0 hr
    rw [← e] at a2
    omega

/-- how far letters stand behind: what falls with every move -/
def far : Nat → List (Pm n) → Int
  | _, [] => 0
  | k, p :: L => k * ni p + far (k + 1) L
theorem far_nonneg (k : Nat) (L : List (Pm n)) : 0 ≤ far k L := by
  induction L generalizing k with
  | nil => exact Int.le_refl _
  | cons p L ih =>
    have := ni_nonneg p
    have := ih (k + 1)
    have : 0 ≤ (k : Int) * ni p := Int.mul_nonneg (by omega) (by omega)
    simp only [far]; omega
theorem far_move (k : Nat) (A B : List (Pm n)) (p q p' q' : Pm n) (h1 : ni p' = ni p + 1) (h2 : ni q' = ni q - 1) : far k (A ++ p' :: q' :: B) = far k (A ++ p :: q :: B) - 1 := by
  induction A generalizing k with
  | nil =>
    simp only [List.nil_append, far]
    rw [h1, h2, Int.mul_add, Int.mul_sub]
    have : ((k + 1 : Nat) : Int) = (k : Int) + 1 := by omega
    rw [this]; omega
  | cons x A ih => simp only [List.cons_append, far]; rw [ih (k + 1)]; omega
end Pm

end Go.Proofs.YtkgdbobhppmaiaaDoor

namespace Go.Proofs.YtkgdbobhppmaiaaDoor
namespace Gar
set_option linter.unusedSectionVars false
variable {G : Type} [DecidableEq G] (g : Gar G)
/-- neither one nor the half twist -/
def mid (x : G) : Bool := decide (x ≠ g.one) && decide (x ≠ g.top)
/-- half twists that are not ones -/
def tops : List G → Int
  | [] => 0
  | x :: L => if x ≠ g.one ∧ x = g.top then tops L + 1 else tops L
theorem tops_zero {L : List G} (h : ∀ x ∈ L, x ≠ g.top) : g.tops L = 0 := by
  induction L with
  | nil => rfl
  | cons x L ih =>
    rw [tops, if_neg (fun e => h x (by simp) e.2)]
    exact ih fun y hy => h y (by simp [hy])
theorem NF_wt {L : List G} (h : g.Wt L) (p : Int) : g.NF (p, L) = (p + g.tops L, L.filter g.mid) := by
  unfold NF
  simp only
  rw [g.nf_wt h]
  induction L generalizing p with
  | nil => simp [norm_nil, tops]
  | cons x L ih =>
    have ih' := ih (g.wt_tail h)
    by_cases e : x = g.one
    · subst e
      rw [List.filter_cons_of_neg (by simp), List.filter_cons_of_neg (by simp [mid]), tops, if_neg (by simp), ih']
    · rw [List.filter_cons_of_pos (by simpa using e)]
      by_cases e2 : x = g.top
      · subst e2
        rw [norm_top, ih', List.filter_cons_of_neg (by simp [mid]), tops, if_pos ⟨e, rfl⟩]
        congr 1; omega
      · have hn := g.wt_no_top e2 h
        rw [g.norm_cons e2, g.tops_zero hn, List.filter_cons_of_pos (by simp [mid, e, e2])]
        congr 1
        · omega
        · congr 1
          apply List.filter_congr
          intro y hy
          have := hn y (by simp [hy])
          simp [mid, this]
theorem NF_cons_top (hne : g.top ≠ g.one) (p : Int) (L : List G) : g.NF (p, g.top :: L) = g.NF (p + 1, L) := by
  show g.norm (p, g.mult g.top (g.nf L)) = _
  rw [g.mult_top (g.nf_stab L) hne, norm_top]; rfl
theorem NF_end_one (p : Int) (L : List G) : g.NF (p, L ++ [g.one]) = g.NF (p, L) := by
  have := g.NF_eqv (g.eqv_app (g.eqv_refl L) g.eqv_one) p
  rwa [List.append_nil] at this
theorem wt_init {L M : List G} (h : g.Wt (L ++ M)) : g.Wt L := by
  induction L with
  | nil => trivial
  | cons x L ih =>
    cases L with
    | nil => trivial
    | cons y L => exact ⟨h.1, ih h.2⟩
theorem wt_last_one {L : List G} (h : g.Wt L) (h1 : g.one ∈ L) : L.getLast? = some g.one := by
  induction L with
  | nil => simp at h1
  | cons x L ih =>
    cases L with
    | nil => simp at h1; simp [h1]
    | cons y L =>
      rw [List.getLast?_cons_cons]
      apply ih h.2
      rcases List.mem_cons.1 h1 with e | e
      · have := h.1
        rw [← e, g.M_one_left] at this
        rw [this]; simp
      · exact e
/-- nothing is left to be taken out -/
theorem NF_done {L : List G} (h : g.Wt L) (h1 : L.head? ≠ some g.top) (h2 : L.getLast? ≠ some g.one) (p : Int) : g.NF (p, L) = (p, L) := by
  have hone : ∀ x ∈ L, x ≠ g.one := by
    rintro x hx rfl
    exact h2 (g.wt_last_one h hx)
  have htop : ∀ x ∈ L, x ≠ g.top := by
    cases L with
    | nil => simp
    | cons x L => exact g.wt_no_top (fun e => h1 (by rw [e]; rfl)) h
  rw [g.NF_wt h, g.tops_zero htop]
  congr 1
  · omega
  · rw [List.filter_eq_self]
    intro x hx
    simp [mid, hone x hx, htop x hx]
/-- a normal form: its neighbours are left-weighted, and neither ones nor half twists stand in it -/
def Nrm (L : List G) : Prop := g.Wt L ∧ ∀ x ∈ L, x ≠ g.one ∧ x ≠ g.top
theorem NF_nrm {L : List G} (h : g.Nrm L) (p : Int) : g.NF (p, L) = (p, L) := by
  rw [g.NF_wt h.1, g.tops_zero fun x hx => (h.2 x hx).2]
  congr 1
  · omega
  · rw [List.filter_eq_self]
    intro x hx
    simp [mid, (h.2 x hx).1, (h.2 x hx).2]
theorem nrm_NF (x : St G) : g.Nrm (g.NF x).2 := by
  refine ⟨g.wt_of_stab (g.NF_stab x), ?_⟩
  have hs := g.NF_stab x
  have h2 := g.NF_NF x
  have h1 : ∀ y ∈ (g.NF x).2, y ≠ g.one := by
    intro y hy
    generalize (g.NF x).2 = L at *
    clear h2
    induction L with
    | nil => simp at hy
    | cons z L ih =>
      rcases List.mem_cons.1 hy with rfl | hy
      · exact hs.1
      · exact ih hs.2.2 hy
  intro y hy
  refine ⟨h1 y hy, ?_⟩
  generalize hx : g.NF x = s at *
  obtain ⟨p, L⟩ := s
  cases L with
  | nil => simp at hy
  | cons z L =>
    have hz : z ≠ g.top := by
      rintro rfl
      have e : g.NF (p, g.top :: L) = g.norm (p, g.top :: L) := by
        show g.norm (p, g.nf _) = _
        rw [g.nf_of_stab hs]
      rw [e, norm_top] at h2
      obtain ⟨j, a, b⟩ := g.norm_split (p + 1) L
      rw [h2] at b
      simp only at b; omega
    exact g.wt_no_top hz (g.wt_of_stab hs) y hy
end Gar

namespace Pm
variable {n : Nat}
theorem top_ne_one (h : 2 ≤ n) : (gar n).top ≠ (gar n).one := by
  intro e
  have : (gar n).top.at' 0 = (gar n).one.at' 0 := by rw [e]
  rw [show (gar n).top = top n from rfl, show (gar n).one = one n from rfl, at_top (by omega), at_one (by omega)] at this
  omega
theorem all_one (h : n < 2) (p : Pm n) : p = one n := ext fun i hi => by
  have := p.lt hi
  rw [at_one hi]; omega
/-- the exchange of a letter, whatever the letter -/
def sgT (n k : Nat) : Pm n := if h : k < n then sg n k h else one n
theorem sgT_eq {k : Nat} (h : k < n) : sgT n k = sg n k h := by unfold sgT; rw [dif_pos h]
end Pm
open Pm

/-- a letter as a simple element, with its sign -/
def ltr (n : Nat) (k : Int) : Gar.Lt (Pm n) := (decide (0 < k), sgT n k.natAbs)
def lts (n : Nat) (w : List Int) : List (Gar.Lt (Pm n)) := w.map (ltr n)
theorem lts_append (n : Nat) (u v : List Int) : lts n (u ++ v) = lts n u ++ lts n v := by simp [lts]
theorem winv_lts (n : Nat) (w : List Int) (h : ∀ k ∈ w, k ≠ 0) : Gar.winv (lts n w) = lts n (w.reverse.map (- ·)) := by
  unfold Gar.winv lts
  rw [← List.map_reverse, ← List.map_reverse, List.map_map, List.map_map]
  apply List.map_congr_left
  intro k hk
  have := h k (by simpa using hk)
  simp only [Function.comp, ltr, Int.natAbs_neg, Prod.mk.injEq, and_true]
  rw [← decide_not, decide_eq_decide]; omega
/-- the normal form of a word -/
def nfW (n : Nat) (w : List Int) : Gar.St (Pm n) := (gar n).NF ((gar n).raw (lts n w))

namespace Pm
variable {n : Nat}
/-- letters one after the other, each put behind, that make up p: no two strands cross twice -/
inductive Wd : List Int → Pm n → Prop
  | nil : Wd [] (one n)
  | cons (k : Nat) (hk : k < n) (h0 : 0 < k) (w : List Int) (q : Pm n) (h : le (sg n k hk) q) (hw : Wd w (mul (sg n k hk) q)) : Wd ((k : Int) :: w) q
theorem Wd.eqv {w : List Int} {p : Pm n} (h : Wd w p) : (gar n).Eqv ((lts n w).map Prod.snd) [p] := by
  induction h with
  | nil => exact (gar n).eqv_symm (gar n).eqv_one
  | cons k hk h0 w q hle hw ih =>
    have e : ((lts n ((k : Int) :: w)).map Prod.snd) = [sg n k hk] ++ (lts n w).map Prod.snd := by
      simp [lts, ltr, sgT_eq hk]
    rw [e]
    refine (gar n).eqv_trans ((gar n).eqv_app ((gar n).eqv_refl _) ih) ?_
    have e2 : mul (sg n k hk) (mul (sg n k hk) q) = q := by rw [← assoc, sg_sg hk, one_mul]
    have h3 : (gar n).red (sg n k hk) (mul (sg n k hk) q) := by
      show le (sg n k hk) (mul (sg n k hk) (mul (sg n k hk) q))
      rw [e2]; exact hle
    have h4 := (gar n).eqv_pair h3
    rw [show (gar n).mul (sg n k hk) (mul (sg n k hk) q) = q from e2] at h4
    exact h4
theorem Wd.pos {w : List Int} {p : Pm n} (h : Wd w p) : ∀ k ∈ w, 0 < k ∧ k < n := by
  induction h with
  | nil => simp
  | cons k hk h0 w q hle hw ih =>
    intro x hx
    rcases List.mem_cons.1 hx with rfl | hx
    · omega
    · exact ih x hx
theorem lts_pos {w : List Int} (h : ∀ k ∈ w, 0 < k) : lts n w = Gar.wpos ((lts n w).map Prod.snd) := by
  unfold lts Gar.wpos
  rw [List.map_map, List.map_map]
  apply List.map_congr_left
  intro k hk
  simp [ltr, h k hk]
theorem Wd.len {w : List Int} {p : Pm n} (h : Wd w p) : (w.length : Int) = ni p := by
  induction h with
  | nil => rw [ni_one]; rfl
  | cons k hk h0 w q hle hw ih =>
    rw [ni_front q hk h0 hle] at ih
    rw [List.length_cons]; omega
/-- a permutation braid behind a word -/
theorem Wd.stps {w : List Int} {p : Pm n} (h : Wd w p) (x : Gar.St (Pm n)) : (gar n).NF ((gar n).stps x (lts n w)) = (gar n).NF (x.1, x.2 ++ [p]) := by
  rw [lts_pos fun k hk => (h.pos k hk).1, (gar n).stps_wpos]
  exact (gar n).NF_eqv ((gar n).eqv_app ((gar n).eqv_refl _) h.eqv) _
end Pm

end Go.Proofs.YtkgdbobhppmaiaaDoor

namespace Go.Proofs.YtkgdbobhppmaiaaDoor
open Pm

/-! blocks of strands that pass one another -/
/-- one strand from the right over a block of a strands behind f -/
def rowL (f : Nat) : Nat → List Int
  | 0 => []
  | a + 1 => ((f + a + 1 : Nat) : Int) :: rowL f a
/-- a block of a strands over a block of b -/
def bl (f a : Nat) : Nat → List Int
  | 0 => []
  | b + 1 => rowL f a ++ bl (f + 1) a b
theorem rowL_pos (f a : Nat) : ∀ k ∈ rowL f a, 0 < k := by
  induction a with
  | zero => simp [rowL]
  | succ a ih => intro k hk; rcases List.mem_cons.1 hk with rfl | h; omega; exact ih k h
theorem bl_pos (f a b : Nat) : ∀ k ∈ bl f a b, 0 < k := by
  induction b generalizing f with
  | zero => simp [bl]
  | succ b ih => intro k hk; rcases List.mem_append.1 hk with h | h; exact rowL_pos f a k h; exact ih _ k h
theorem bl_zero (f b : Nat) : bl f 0 b = [] := by
  induction b generalizing f with
  | zero => rfl
  | succ b ih => rw [bl, ih]; rfl
/-- things after the exchanges of positive letters -/
def run (l w : List Int) : List Int := w.foldl (fun l k => swapAt l (k.toNat - 1)) l
theorem run_append (l u v : List Int) : run l (u ++ v) = run (run l u) v := by unfold run; rw [List.foldl_append]
/-- at every exchange the two things stand in the relation R -/
def Asc (R : Int → Int → Prop) : List Int → List Int → Prop
  | [], _ => True
  | k :: w, l => (0 < k ∧ k.toNat < l.length ∧ R (nth l (k.toNat - 1)) (nth l k.toNat)) ∧ Asc R w (swapAt l (k.toNat - 1))
theorem asc_append (R : Int → Int → Prop) (u v l : List Int) : Asc R (u ++ v) l ↔ Asc R u l ∧ Asc R v (run l u) := by
  induction u generalizing l with
  | nil => simp [Asc, run]
  | cons k u ih =>
    simp only [List.cons_append, Asc]
    rw [ih]
    exact ⟨fun ⟨a, b, c⟩ => ⟨⟨a, b⟩, c⟩, fun ⟨⟨a, b⟩, c⟩ => ⟨a, b, c⟩⟩
theorem nth_mid (X Y : List Int) (x : Int) : nth (X ++ x :: Y) X.length = x := by simp [nth]
theorem nth_mid2 (X Y : List Int) (x y : Int) : nth (X ++ x :: y :: Y) (X.length + 1) = y := by
  have := nth_mid (X ++ [x]) Y y
  simpa using this
theorem swap_mid (X Y : List Int) (x y : Int) : swapAt (X ++ x :: y :: Y) X.length = X ++ y :: x :: Y := by
  unfold swapAt
  rw [nth_mid, nth_mid2, List.set_append_right _ _ (Nat.le_refl _), Nat.sub_self, List.set_cons_zero, List.set_append_right _ _ (by omega)]
  simp
theorem row_run (X A Y : List Int) (b : Int) : run (X ++ A ++ b :: Y) (rowL X.length A.length) = X ++ b :: A ++ Y := by
  generalize hA : A.length = a
  induction a generalizing A Y with
  | zero =>
    have : A = [] := List.eq_nil_of_length_eq_zero hA
    subst this; simp [rowL, run]
  | succ a ih =>
    rcases List.eq_nil_or_concat A with h | ⟨A', z, h⟩
    · subst h; simp at hA
    · subst h
      have hA' : A'.length = a := by simpa using hA
      show run (swapAt (X ++ A'.concat z ++ b :: Y) _) (rowL X.length a) = _
      have e : X ++ A'.concat z ++ b :: Y = (X ++ A') ++ z :: b :: Y := by simp
      have e2 : ((X.length + a + 1 : Nat) : Int).toNat - 1 = (X ++ A').length := by simp; omega
      rw [e, e2, swap_mid]
      have := ih A' (z :: Y) hA'
      simp only [List.append_assoc] at this ⊢
      rw [this]; simp
theorem row_asc (R : Int → Int → Prop) (X A Y : List Int) (b : Int) (h : ∀ a ∈ A, R a b) : Asc R (rowL X.length A.length) (X ++ A ++ b :: Y) := by
  generalize hA : A.length = a
  induction a generalizing A Y with
  | zero => trivial
  | succ a ih =>
    rcases List.eq_nil_or_concat A with h' | ⟨A', z, h'⟩
    · subst h'; simp at hA
    · subst h'
      have hA' : A'.length = a := by simpa using hA
      have e : X ++ A'.concat z ++ b :: Y = (X ++ A') ++ z :: b :: Y := by simp
      have e2 : ((X.length + a + 1 : Nat) : Int).toNat - 1 = (X ++ A').length := by simp; omega
      have e3 : ((X.length + a + 1 : Nat) : Int).toNat = (X ++ A').length + 1 := by simp; omega
      rw [rowL, Asc, e, e2, e3, swap_mid, nth_mid, nth_mid2]
      refine ⟨⟨by omega, by simp; omega, h z (by simp)⟩, ?_⟩
      have := ih A' (z :: Y) (fun a ha => h a (by simp [ha])) hA'
      simpa using this
theorem bl_run (X A B Y : List Int) : run (X ++ A ++ B ++ Y) (bl X.length A.length B.length) = X ++ B ++ A ++ Y := by
  induction B generalizing X with
  | nil => simp [bl, run]
  | cons b B ih =>
    rw [List.length_cons, bl, run_append]
    have h1 := row_run X A (B ++ Y) b
    have e1 : X ++ A ++ b :: B ++ Y = X ++ A ++ b :: (B ++ Y) := by simp
    rw [e1, h1]
    have h2 := ih (X ++ [b])
    have e2 : (X ++ [b]).length = X.length + 1 := by simp
    rw [e2] at h2
    have e3 : X ++ b :: A ++ (B ++ Y) = X ++ [b] ++ A ++ B ++ Y := by simp
    rw [e3, h2]; simp
theorem bl_asc (R : Int → Int → Prop) (X A B Y : List Int) (h : ∀ a ∈ A, ∀ b ∈ B, R a b) : Asc R (bl X.length A.length B.length) (X ++ A ++ B ++ Y) := by
  induction B generalizing X with
  | nil => trivial
  | cons b B ih =>
    rw [List.length_cons, bl, asc_append]
    have e1 : X ++ A ++ b :: B ++ Y = X ++ A ++ b :: (B ++ Y) := by simp
    rw [e1]
    refine ⟨row_asc R X A (B ++ Y) b (fun a ha => h a ha b (by simp)), ?_⟩
    rw [row_run]
    have h2 := ih (X ++ [b]) (fun a ha c hc => h a ha c (by simp [hc]))
    have e2 : (X ++ [b]).length = X.length + 1 := by simp
    rw [e2] at h2
    have e3 : X ++ b :: A ++ (B ++ Y) = X ++ [b] ++ A ++ B ++ Y := by simp
    rw [e3]; exact h2
/-- backwards -/
theorem run_swap_back {l : List Int} {k : Int} (h0 : 0 < k) (h1 : k.toNat < l.length) : swapAt (swapAt l (k.toNat - 1)) (k.toNat - 1) = l := swapAt_swapAt (by omega)
theorem rev_asc (R : Int → Int → Prop) (w l : List Int) (h : Asc R w l) : Asc (fun x y => R y x) w.reverse (run l w) ∧ run (run l w) w.reverse = l := by
  induction w generalizing l with
  | nil => exact ⟨trivial, rfl⟩
  | cons k w ih =>
    obtain ⟨⟨h0, h1, h2⟩, h3⟩ := h
    obtain ⟨a, b⟩ := ih _ h3
    have e : run l (k :: w) = run (swapAt l (k.toNat - 1)) w := rfl
    rw [List.reverse_cons, e]
    refine ⟨?_, ?_⟩
    · rw [asc_append, b]
      refine ⟨a, ⟨h0, by simpa using h1, ?_⟩, trivial⟩
      rw [nth_swapAt (by omega), nth_swapAt (by omega), if_pos rfl, if_neg (by omega), if_pos (by omega), show k.toNat - 1 + 1 = k.toNat by omega]
      exact h2
    · rw [run_append, b]
      show swapAt (swapAt l (k.toNat - 1)) (k.toNat - 1) = l
      exact run_swap_back h0 h1

/-- positive words whose exchanges rise stand for the permutation that they make up -/
theorem asc_one {m : Nat} (w : List Int) (p : Pm m) (h : Asc (· < ·) w (inv p).1) : ∃ q : Pm m, run (inv p).1 w = (inv q).1 ∧ (gar m).Eqv ([p] ++ (lts m w).map Prod.snd) [q] := by
  induction w generalizing p with
  | nil => exact ⟨p, rfl, by simpa [lts] using (gar m).eqv_refl [p]⟩
  | cons k w ih =>
    obtain ⟨⟨h0, h1, h2⟩, h3⟩ := h
    rw [(inv p).len] at h1
    obtain ⟨j, rfl⟩ : ∃ j : Nat, k = j := ⟨k.toNat, by omega⟩
    rw [Int.toNat_natCast] at h1 h2 h3
    have hj : 0 < j := by omega
    have e1 : swapAt (inv p).1 (j - 1) = (inv (mul p (sg m j h1))).1 := by
      rw [front_val _ h1 hj, mul_inv_rev, sg_inv h1]
    rw [e1] at h3
    obtain ⟨q, hq, he⟩ := ih _ h3
    refine ⟨q, ?_, ?_⟩
    · show run (swapAt (inv p).1 ((j : Int).toNat - 1)) w = _
      rw [Int.toNat_natCast, e1, hq]
    · have hr : (gar m).red p (sg m j h1) := by
        rw [red_sg p h1 hj]
        have a1 := (inv p).nth_at (show j - 1 < m by omega)
        have a2 := (inv p).nth_at h1
        rw [a1, a2] at h2; omega
      have e2 : [p] ++ (lts m ((j : Int) :: w)).map Prod.snd = [p, sg m j h1] ++ (lts m w).map Prod.snd := by
        simp [lts, ltr, sgT_eq h1]
      rw [e2]
      exact (gar m).eqv_trans ((gar m).eqv_app ((gar m).eqv_pair hr) ((gar m).eqv_refl _)) he
theorem asc_wq {m : Nat} {w w' : List Int} (h : Asc (· < ·) w (idn m)) (h' : Asc (· < ·) w' (idn m)) (hr : run (idn m) w = run (idn m) w') (hp : ∀ k ∈ w, 0 < k) (hp' : ∀ k ∈ w', 0 < k) : (gar m).Wq (lts m w) (lts m w') := by
  have e : idn m = (inv (one m)).1 := by rw [inv_one, idn_val]
  rw [e] at h h' hr
  obtain ⟨q, a1, a2⟩ := asc_one w _ h
  obtain ⟨q', b1, b2⟩ := asc_one w' _ h'
  rw [a1, b1] at hr
  have e2 : q = q' := by
    have : inv q = inv q' := Subtype.ext hr
    rw [← inv_inv q, this, inv_inv]
  subst e2
  rw [lts_pos hp, lts_pos hp']
  apply Gar.Wq.pos
  have d : ∀ u : List (Pm m), (gar m).Eqv ([one m] ++ u) u := fun u => by
    exact (gar m).eqv_app (gar m).eqv_one ((gar m).eqv_refl u)
  exact (gar m).eqv_trans ((gar m).eqv_symm (d _)) ((gar m).eqv_trans a2 ((gar m).eqv_trans ((gar m).eqv_symm b2) (d _)))

theorem idn_sorted (m : Nat) : (idn m).Pairwise (· < ·) := by
  unfold idn marks
  rw [List.pairwise_map]
  exact List.Pairwise.imp (fun h => by omega) List.pairwise_lt_range
theorem len4 {α : Type} {L : List α} (h : L.length = 4) : ∃ a b c d, L = [a, b, c, d] := by
  rcases L with _ | ⟨a, _ | ⟨b, _ | ⟨c, _ | ⟨d, _ | ⟨e, L⟩⟩⟩⟩⟩ <;> simp at h
  exact ⟨a, b, c, d, rfl⟩
theorem len5 {α : Type} {L : List α} (h : L.length = 5) : ∃ a b c d e, L = [a, b, c, d, e] := by
  rcases L with _ | ⟨a, _ | ⟨b, _ | ⟨c, _ | ⟨d, _ | ⟨e, _ | ⟨f, L⟩⟩⟩⟩⟩⟩ <;> simp at h
  exact ⟨a, b, c, d, e, rfl⟩
theorem len7 {α : Type} {L : List α} (h : L.length = 7) : ∃ a b c d e f g, L = [a, b, c, d, e, f, g] := by
  rcases L with _ | ⟨a, _ | ⟨b, _ | ⟨c, _ | ⟨d, _ | ⟨e, _ | ⟨f, _ | ⟨g, _ | ⟨x, L⟩⟩⟩⟩⟩⟩⟩⟩ <;> simp at h
  exact ⟨a, b, c, d, e, f, g, rfl⟩
theorem idn_split (m : Nat) {p : List Nat} (h : p.sum = m) : ∃ L : List (List Int), L.map List.length = p ∧ L.flatten = idn m := by
  have key : ∀ (p : List Nat) (l : List Int), p.sum = l.length → ∃ L : List (List Int), L.map List.length = p ∧ L.flatten = l := by
    intro p
    induction p with
    | nil => intro l hl; exact ⟨[], rfl, by simp at hl; simp [List.eq_nil_of_length_eq_zero hl.symm]⟩
    | cons a p ih =>
      intro l hl
      rw [List.sum_cons] at hl
      obtain ⟨L, h1, h2⟩ := ih (l.drop a) (by rw [List.length_drop]; omega)
      exact ⟨l.take a :: L, by simp [h1, List.length_take]; omega, by simp [h2]⟩
  exact key p (idn m) (by simpa using h)

/-! doubled words -/
/-- the sizes at the places i and i + 1 change places -/
def swN (s : List Nat) (i : Nat) : List Nat := (s.set i (s[i + 1]?.getD 0)).set (i + 1) (s[i]?.getD 0)
def dl (s : List Nat) (k : Int) : List Int := (bl (s.take (k.natAbs - 1)).sum (s[k.natAbs - 1]?.getD 0) (s[k.natAbs]?.getD 0)).map (k.sign * ·)
def dw : List Int → List Nat → List Int
  | [], _ => []
  | k :: w, s => dl s k ++ dw w (swN s (k.natAbs - 1))
def aft (w : List Int) (s : List Nat) : List Nat := w.foldl (fun s k => swN s (k.natAbs - 1)) s
theorem dw_append (u v : List Int) (s : List Nat) : dw (u ++ v) s = dw u s ++ dw v (aft u s) := by
  induction u generalizing s with
  | nil => rfl
  | cons k u ih => rw [List.cons_append, dw, dw, ih, List.append_assoc]; rfl
theorem aft_append (u v : List Int) (s : List Nat) : aft (u ++ v) s = aft v (aft u s) := by unfold aft; rw [List.foldl_append]
theorem swN_mid (P Q : List Nat) (a b : Nat) : swN (P ++ a :: b :: Q) P.length = P ++ b :: a :: Q := by
  unfold swN
  have e1 : (P ++ a :: b :: Q)[P.length + 1]?.getD 0 = b := by
    rw [List.getElem?_append_right (by omega)]; simp
  have e2 : (P ++ a :: b :: Q)[P.length]?.getD 0 = a := by
    rw [List.getElem?_append_right (by omega)]; simp
  rw [e1, e2, List.set_append_right _ _ (Nat.le_refl _), Nat.sub_self, List.set_cons_zero, List.set_append_right _ _ (by omega)]
  simp
theorem dl_mid (P Q : List Nat) (a b : Nat) (k : Int) (hk : k.natAbs = P.length + 1) : dl (P ++ a :: b :: Q) k = (bl P.sum a b).map (k.sign * ·) := by
  unfold dl
  rw [hk, Nat.add_sub_cancel, List.take_left]
  congr 2
  · rw [List.getElem?_append_right (by omega)]; simp
  · rw [List.getElem?_append_right (by omega)]; simp
/-- a valid letter on n strands -/
def Lv (n : Nat) (k : Int) : Prop := k ≠ 0 ∧ k.natAbs < n
theorem Lv.neg {n : Nat} {k : Int} (h : Lv n k) : Lv n (-k) := ⟨by have := h.1; omega, by rw [Int.natAbs_neg]; exact h.2⟩
theorem split_at {n : Nat} {s : List Nat} (hs : s.length = n) {k : Int} (h : Lv n k) : ∃ P a b Q, s = P ++ a :: b :: Q ∧ k.natAbs = P.length + 1 := by
  obtain ⟨h0, h1⟩ := h
  have hk : k.natAbs - 1 + 1 < s.length := by omega
  refine ⟨s.take (k.natAbs - 1), s[k.natAbs - 1], s[k.natAbs - 1 + 1], s.drop (k.natAbs - 1 + 2), ?_, by rw [List.length_take]; omega⟩
  rw [← List.drop_eq_getElem_cons hk, ← List.drop_eq_getElem_cons (by omega), List.take_append_drop]
theorem sum_swap (P Q : List Nat) (a b : Nat) : (P ++ b :: a :: Q).sum = (P ++ a :: b :: Q).sum := by simp [List.sum_append]; omega
theorem swN_len (s : List Nat) (i : Nat) : (swN s i).length = s.length := by simp [swN]
theorem aft_len (w : List Int) (s : List Nat) : (aft w s).length = s.length := by
  unfold aft
  induction w generalizing s with
  | nil => rfl
  | cons k w ih => rw [List.foldl_cons, ih, swN_len]
theorem aft_sum {n : Nat} (w : List Int) (s : List Nat) (hs : s.length = n) (hw : ∀ k ∈ w, Lv n k) : (aft w s).sum = s.sum := by
  unfold aft
  induction w generalizing s with
  | nil => rfl
  | cons k w ih =>
    rw [List.foldl_cons, ih _ (by rw [swN_len, hs]) (fun x hx => hw x (by simp [hx]))]
    obtain ⟨P, a, b, Q, rfl, e⟩ := split_at hs (hw k (by simp))
    rw [show k.natAbs - 1 = P.length by omega, swN_mid, sum_swap]

/-- two words stand for one another, however the strands are doubled -/
def De (n : Nat) (u u' : List Int) : Prop := ∀ s : List Nat, s.length = n → aft u s = aft u' s ∧ (gar s.sum).Wq (lts s.sum (dw u s)) (lts s.sum (dw u' s))
theorem De.refl (n : Nat) (u : List Int) : De n u u := fun _ _ => ⟨rfl, Gar.Wq.refl _ _⟩
theorem De.symm {n : Nat} {u v : List Int} (h : De n u v) : De n v u := fun s hs => ⟨(h s hs).1.symm, Gar.Wq.symm _ (h s hs).2⟩
theorem De.trans {n : Nat} {u v w : List Int} (h : De n u v) (k : De n v w) : De n u w := fun s hs => ⟨(h s hs).1.trans (k s hs).1, Gar.Wq.trans _ (h s hs).2 (k s hs).2⟩
theorem De.app {n : Nat} {u u' v v' : List Int} (hu : ∀ k ∈ u, Lv n k) (h : De n u u') (k : De n v v') : De n (u ++ v) (u' ++ v') := fun s hs => by
  obtain ⟨h1, h2⟩ := h s hs
  obtain ⟨k1, k2⟩ := k (aft u s) (by rw [aft_len, hs])
  rw [aft_sum u s hs hu] at k2
  rw [aft_append, aft_append, dw_append, dw_append, lts_append, lts_append, ← h1]
  exact ⟨k1, Gar.Wq.app _ h2 k2⟩
theorem map_one_mul (l : List Int) : l.map ((1 : Int) * ·) = l := by simp
theorem map_neg_mul (l : List Int) : l.map ((-1 : Int) * ·) = l.map (- ·) := by
  apply List.map_congr_left; intro x _; omega
theorem sign_pos {k : Int} (h : 0 < k) : k.sign = 1 := Int.sign_eq_one_of_pos h
theorem sign_neg {k : Int} (h : k < 0) : k.sign = -1 := Int.sign_eq_neg_one_of_neg h
/-- below two strands there is nothing to cross -/
theorem bl_small {f a b : Nat} (h : a + b < 2) : bl f a b = [] := by
  rcases Nat.eq_zero_or_pos b with e | e
  · subst e; rfl
  · obtain rfl : a = 0 := by omega
    exact bl_zero f b
/-- a block back over another one -/
theorem back_wq (P Q : List Nat) (a b : Nat) : (gar (P ++ a :: b :: Q).sum).Wq (lts _ (bl P.sum a b)) (lts _ (bl P.sum b a).reverse) := by
  obtain ⟨L, hL, hf⟩ := idn_split (P ++ a :: b :: Q).sum (p := [P.sum, a, b, Q.sum]) (by simp [List.sum_append])
  obtain ⟨X, A, B, Y, rfl⟩ := len4 (by have := congrArg List.length hL; simpa using this)
  · simp only [List.map_cons, List.map_nil, List.cons.injEq, and_true] at hL
    obtain ⟨hX, hA, hB, hY⟩ := hL
    have hf' : idn (P ++ a :: b :: Q).sum = X ++ A ++ B ++ Y := by rw [← hf]; simp
    have hs := idn_sorted (P ++ a :: b :: Q).sum
    rw [hf', List.append_assoc, List.append_assoc, List.pairwise_append] at hs
    have hs2 := hs.2.1
    rw [List.pairwise_append] at hs2
    have hab : ∀ x ∈ A, ∀ y ∈ B, x < y := fun x hx y hy => hs2.2.2 x hx y (by simp [hy])
    rw [← hX, ← hA, ← hB]
    have h1 := bl_asc (· < ·) X A B Y hab
    have h2 := bl_run X A B Y
    have h3 := bl_asc (fun x y => y < x) X B A Y (fun y hy x hx => hab x hx y hy)
    have h4 := bl_run X B A Y
    have h5 := rev_asc _ _ _ h3
    rw [h4] at h5
    rw [← hA, ← hB] at hf'
    refine asc_wq (by rw [hf']; exact h1) (by rw [hf']; exact h5.1) (by rw [hf', h2, h5.2]) (bl_pos _ _ _) (fun k hk => bl_pos _ _ _ k (by simpa using hk))
theorem De.cancel_pos {n : Nat} {k : Int} (h : Lv n k) (hp : 0 < k) : De n [k, -k] [] ∧ De n [-k, k] [] := by
  have main : ∀ s : List Nat, s.length = n → (aft [k, -k] s = s ∧ (gar s.sum).Wq (lts s.sum (dw [k, -k] s)) (lts s.sum [])) ∧ (aft [-k, k] s = s ∧ (gar s.sum).Wq (lts s.sum (dw [-k, k] s)) (lts s.sum [])) := by
    intro s hs
    obtain ⟨P, a, b, Q, rfl, e⟩ := split_at hs h
    have e1 : k.natAbs - 1 = P.length := by omega
    have e2 : (-k).natAbs = P.length + 1 := by rw [Int.natAbs_neg]; exact e
    have e3 : (-k).natAbs - 1 = P.length := by omega
    have f1 : swN (P ++ a :: b :: Q) (k.natAbs - 1) = P ++ b :: a :: Q := by rw [e1, swN_mid]
    have f2 : swN (P ++ a :: b :: Q) ((-k).natAbs - 1) = P ++ b :: a :: Q := by rw [e3, swN_mid]
    have g1 : swN (P ++ b :: a :: Q) (k.natAbs - 1) = P ++ a :: b :: Q := by rw [e1, swN_mid]
    have g2 : swN (P ++ b :: a :: Q) ((-k).natAbs - 1) = P ++ a :: b :: Q := by rw [e3, swN_mid]
    have d1 : dw [k, -k] (P ++ a :: b :: Q) = bl P.sum a b ++ (bl P.sum b a).map (- ·) := by
      rw [dw, dw, dw, f1, dl_mid P Q a b k e, dl_mid P Q b a (-k) e2, sign_pos hp, sign_neg (by omega), map_one_mul, map_neg_mul, List.append_nil]
    have d2 : dw [-k, k] (P ++ a :: b :: Q) = (bl P.sum a b).map (- ·) ++ bl P.sum b a := by
      rw [dw, dw, dw, f2, dl_mid P Q a b (-k) e2, dl_mid P Q b a k e, sign_pos hp, sign_neg (by omega), map_one_mul, map_neg_mul, List.append_nil]
    have a1 : aft [k, -k] (P ++ a :: b :: Q) = P ++ a :: b :: Q := by
      show swN (swN _ _) _ = _
      rw [f1, g2]
    have a2 : aft [-k, k] (P ++ a :: b :: Q) = P ++ a :: b :: Q := by
      show swN (swN _ _) _ = _
      rw [f2, g1]
    rw [d1, d2, a1, a2]
    by_cases hm : (P ++ a :: b :: Q).sum < 2
    · have hab : a + b < 2 := by simp [List.sum_append] at hm; omega
      rw [bl_small hab, bl_small (by omega : b + a < 2)]
      exact ⟨⟨rfl, Gar.Wq.refl _ _⟩, ⟨rfl, Gar.Wq.refl _ _⟩⟩
    · have hne := top_ne_one (n := (P ++ a :: b :: Q).sum) (by omega)
      have nz : ∀ c d, ∀ x ∈ (bl P.sum c d).reverse, x ≠ 0 := fun c d x hx => by have := bl_pos P.sum c d x (by simpa using hx); omega
      have w1 : ∀ c d, Gar.winv (lts (P ++ a :: b :: Q).sum (bl P.sum c d).reverse) = lts _ ((bl P.sum c d).map (- ·)) := fun c d => by
        rw [winv_lts _ _ (nz c d), List.reverse_reverse]
      have b1 := Gar.Wq.inv _ hne (back_wq P Q a b)
      rw [w1] at b1
      have b2 := back_wq P Q b a
      rw [sum_swap] at b2
      have b3 := Gar.Wq.inv _ hne b2
      rw [w1] at b3
      rw [lts_append, lts_append]
      refine ⟨⟨rfl, ?_⟩, ⟨rfl, ?_⟩⟩
      · exact Gar.Wq.trans _ (Gar.Wq.app _ (Gar.Wq.refl _ _) (Gar.Wq.symm _ b1)) (Gar.Wq.inv_right _ hne _)
      · exact Gar.Wq.trans _ (Gar.Wq.app _ (Gar.Wq.symm _ b3) (Gar.Wq.refl _ _)) (Gar.Wq.inv_left _ hne _)
  exact ⟨fun s hs => (main s hs).1, fun s hs => (main s hs).2⟩
theorem De.cancel {n : Nat} {k : Int} (h : Lv n k) : De n [k, -k] [] := by
  rcases Int.lt_trichotomy k 0 with hk | hk | hk
  · have := (De.cancel_pos h.neg (by omega)).2
    rwa [Int.neg_neg] at this
  · exact absurd hk h.1
  · exact (De.cancel_pos h hk).1
/-- the letters backwards, with the other signs -/
def invI (w : List Int) : List Int := w.reverse.map (- ·)
theorem invI_invI (w : List Int) : invI (invI w) = w := by
  unfold invI; rw [← List.map_reverse, List.reverse_reverse, List.map_map]; simp [Function.comp_def]
theorem lv_invI {n : Nat} {w : List Int} (h : ∀ k ∈ w, Lv n k) : ∀ k ∈ invI w, Lv n k := by
  intro k hk
  unfold invI at hk
  rw [List.mem_map] at hk
  obtain ⟨x, hx, rfl⟩ := hk
  exact (h x (by simpa using hx)).neg
theorem De.inv_right {n : Nat} (w : List Int) (h : ∀ k ∈ w, Lv n k) : De n (w ++ invI w) [] := by
  induction w with
  | nil => exact De.refl n []
  | cons k w ih =>
    have e : (k :: w) ++ invI (k :: w) = [k] ++ ((w ++ invI w) ++ [-k]) := by simp [invI]
    rw [e]
    have hk : Lv n k := h k (by simp)
    have hw : ∀ x ∈ w, Lv n x := fun x hx => h x (by simp [hx])
    have hin : ∀ x ∈ w ++ invI w, Lv n x := by
      intro x hx
      rcases List.mem_append.1 hx with hx | hx
      · exact hw x hx
      · exact lv_invI hw x hx
    have h1 : De n ((w ++ invI w) ++ [-k]) ([] ++ [-k]) := De.app hin (ih hw) (De.refl n _)
    have h2 : De n ([k] ++ ((w ++ invI w) ++ [-k])) ([k] ++ ([] ++ [-k])) := De.app (by simpa using hk) (De.refl n _) h1
    exact h2.trans (De.cancel hk)
theorem De.inv {n : Nat} {w w' : List Int} (hw : ∀ k ∈ w, Lv n k) (hw' : ∀ k ∈ w', Lv n k) (h : De n w w') : De n (invI w) (invI w') := by
  have i1 := lv_invI hw
  have hl : De n (invI w ++ w) [] := by
    have := De.inv_right (invI w) i1
    rwa [invI_invI] at this
  have h1 : De n (invI w ++ (w' ++ invI w')) (invI w ++ []) := De.app i1 (De.refl n _) (De.inv_right w' hw')
  have h2 : De n (invI w ++ (w' ++ invI w')) (invI w ++ (w ++ invI w')) := De.app i1 (De.refl n _) (De.app hw' h.symm (De.refl n _))
  have h3 : De n ((invI w ++ w) ++ invI w') ([] ++ invI w') := De.app (by
    intro x hx
    rcases List.mem_append.1 hx with hx | hx
    · exact i1 x hx
    · exact hw x hx) hl (De.refl n _)
  rw [List.append_nil] at h1
  rw [List.append_assoc, List.nil_append] at h3
  exact h1.symm.trans (h2.trans h3)

end Go.Proofs.YtkgdbobhppmaiaaDoor

namespace Go.Proofs.YtkgdbobhppmaiaaDoor
open Pm

theorem dl_at {P Q : List Nat} {a b : Nat} {k : Nat} (hk : k = P.length + 1) : dl (P ++ a :: b :: Q) (k : Int) = bl P.sum a b := by
  rw [dl_mid P Q a b (k : Int) (by omega), sign_pos (by omega), map_one_mul]
theorem sw_at {P Q : List Nat} {a b : Nat} {k : Nat} (hk : k = P.length + 1) : swN (P ++ a :: b :: Q) ((k : Int).natAbs - 1) = P ++ b :: a :: Q := by
  rw [show (k : Int).natAbs - 1 = P.length by omega, swN_mid]
theorem lv_nat {n k : Nat} (h0 : 0 < k) (h : k < n) : Lv n (k : Int) := ⟨by omega, by omega⟩

theorem De.comm_pos {n i j : Nat} (hi : 0 < i) (hij : i + 2 ≤ j) (hj : j < n) : De n [(i : Int), (j : Int)] [(j : Int), (i : Int)] := by
  intro s hs
  obtain ⟨P, a, b, R, rfl, e⟩ := split_at hs (lv_nat hi (show i < n by omega))
  obtain ⟨Q, c, d, T, hR, e2⟩ := split_at (s := R) (n := R.length) rfl (k := ((j - i - 1 : Nat) : Int)) ⟨by omega, by simp at hs; omega⟩
  subst hR
  have e : i = P.length + 1 := by omega
  have e2 : j = P.length + 2 + Q.length + 1 := by omega
  have s1 : P ++ b :: a :: (Q ++ c :: d :: T) = (P ++ b :: a :: Q) ++ c :: d :: T := by simp
  have s2 : P ++ a :: b :: (Q ++ c :: d :: T) = (P ++ a :: b :: Q) ++ c :: d :: T := by simp
  have s3 : P ++ a :: b :: (Q ++ d :: c :: T) = (P ++ a :: b :: Q) ++ d :: c :: T := by simp
  have l1 : j = (P ++ b :: a :: Q).length + 1 := by simp; omega
  have l2 : j = (P ++ a :: b :: Q).length + 1 := by simp; omega
  have d1 : dw [(i : Int), (j : Int)] (P ++ a :: b :: (Q ++ c :: d :: T)) = bl P.sum a b ++ bl (P ++ b :: a :: Q).sum c d := by
    rw [dw, dw, dw, dl_at e, sw_at e, s1, dl_at l1, List.append_nil]
  have d2 : dw [(j : Int), (i : Int)] (P ++ a :: b :: (Q ++ c :: d :: T)) = bl (P ++ a :: b :: Q).sum c d ++ bl P.sum a b := by
    rw [dw, dw, dw, s2, dl_at l2, sw_at l2, ← s3, dl_at e, List.append_nil]
  have a1 : aft [(i : Int), (j : Int)] (P ++ a :: b :: (Q ++ c :: d :: T)) = (P ++ b :: a :: Q) ++ d :: c :: T := by
    show swN (swN _ _) _ = _
    rw [sw_at e, s1, sw_at l1]
  have a2 : aft [(j : Int), (i : Int)] (P ++ a :: b :: (Q ++ c :: d :: T)) = (P ++ b :: a :: Q) ++ d :: c :: T := by
    show swN (swN _ _) _ = _
    rw [s2, sw_at l2, ← s3, sw_at e]; simp
  rw [d1, d2, a1, a2]
  refine ⟨rfl, ?_⟩
  obtain ⟨L, hL, hf⟩ := idn_split (P ++ a :: b :: (Q ++ c :: d :: T)).sum (p := [P.sum, a, b, Q.sum, c, d, T.sum]) (by simp [List.sum_append])
  obtain ⟨X, A, B, Z, C, D, Y, rfl⟩ := len7 (by have := congrArg List.length hL; simpa using this)
  · simp only [List.map_cons, List.map_nil, List.cons.injEq, and_true] at hL
    obtain ⟨hX, hA, hB, hZ, hC, hD, hY⟩ := hL
    have hf' : idn (P ++ a :: b :: (Q ++ c :: d :: T)).sum = X ++ (A ++ (B ++ (Z ++ (C ++ (D ++ Y))))) := by rw [← hf]; simp
    have hs := idn_sorted (P ++ a :: b :: (Q ++ c :: d :: T)).sum
    rw [hf', List.pairwise_append] at hs
    have p1 := hs.2.1
    rw [List.pairwise_append] at p1
    have p2 := p1.2.1
    rw [List.pairwise_append] at p2
    have p3 := p2.2.1
    rw [List.pairwise_append] at p3
    have p4 := p3.2.1
    rw [List.pairwise_append] at p4
    have hab : ∀ x ∈ A, ∀ y ∈ B, x < y := fun x hx y hy => p1.2.2 x hx y (by simp [hy])
    have hcd : ∀ x ∈ C, ∀ y ∈ D, x < y := fun x hx y hy => p4.2.2 x hx y (by simp [hy])
    have n1 : (P ++ b :: a :: Q).sum = (X ++ B ++ A ++ Z).length := by simp [List.sum_append]; omega
    have n2 : (P ++ a :: b :: Q).sum = (X ++ A ++ B ++ Z).length := by simp [List.sum_append]; omega
    rw [n1, n2, ← hX, ← hA, ← hB, ← hC, ← hD]
    have q1 := bl_asc (· < ·) X A B (Z ++ C ++ D ++ Y) hab
    have r1 := bl_run X A B (Z ++ C ++ D ++ Y)
    have q2 := bl_asc (· < ·) (X ++ B ++ A ++ Z) C D Y hcd
    have r2 := bl_run (X ++ B ++ A ++ Z) C D Y
    have q3 := bl_asc (· < ·) (X ++ A ++ B ++ Z) C D Y hcd
    have r3 := bl_run (X ++ A ++ B ++ Z) C D Y
    have q4 := bl_asc (· < ·) X A B (Z ++ D ++ C ++ Y) hab
    have r4 := bl_run X A B (Z ++ D ++ C ++ Y)
    rw [← hA, ← hB, ← hC, ← hD] at hf'
    simp only [List.append_assoc] at hf' q1 r1 q2 r2 q3 r3 q4 r4 ⊢
    refine asc_wq ?_ ?_ ?_ ?_ ?_
    · rw [hf', asc_append, r1]; exact ⟨q1, q2⟩
    · rw [hf', asc_append, r3]; exact ⟨q3, q4⟩
    · rw [hf', run_append, run_append, r1, r2, r3, r4]
    · intro k hk
      rcases List.mem_append.1 hk with h | h <;> exact bl_pos _ _ _ k h
    · intro k hk
      rcases List.mem_append.1 hk with h | h <;> exact bl_pos _ _ _ k h

theorem De.braid_pos {n i : Nat} (hi : 0 < i) (hj : i + 1 < n) : De n [(i : Int), ((i + 1 : Nat) : Int), (i : Int)] [((i + 1 : Nat) : Int), (i : Int), ((i + 1 : Nat) : Int)] := by
  intro s hs
  obtain ⟨P, a, b, R, rfl, e⟩ := split_at hs (lv_nat hi (show i < n by omega))
  have e : i = P.length + 1 := by omega
  match R with
  | [] => simp at hs; omega
  | c :: T =>
    have sh : ∀ x y z : Nat, P ++ x :: y :: z :: T = (P ++ [x]) ++ y :: z :: T := by intros; simp
    have l1 : ∀ x : Nat, i + 1 = (P ++ [x]).length + 1 := by intro x; simp; omega
    have d1 : dw [(i : Int), ((i + 1 : Nat) : Int), (i : Int)] (P ++ a :: b :: c :: T) = bl P.sum a b ++ (bl (P ++ [b]).sum a c ++ bl P.sum b c) := by
      rw [dw, dw, dw, dw, dl_at e, sw_at e, sh b a c, dl_at (l1 b), sw_at (l1 b), ← sh b c a, dl_at e, List.append_nil]
    have d2 : dw [((i + 1 : Nat) : Int), (i : Int), ((i + 1 : Nat) : Int)] (P ++ a :: b :: c :: T) = bl (P ++ [a]).sum b c ++ (bl P.sum a c ++ bl (P ++ [c]).sum a b) := by
      rw [dw, dw, dw, dw, sh a b c, dl_at (l1 a), sw_at (l1 a), ← sh a c b, dl_at e, sw_at e, sh c a b, dl_at (l1 c), List.append_nil]
    have a1 : aft [(i : Int), ((i + 1 : Nat) : Int), (i : Int)] (P ++ a :: b :: c :: T) = P ++ c :: b :: a :: T := by
      show swN (swN (swN _ _) _) _ = _
      rw [sw_at e, sh b a c, sw_at (l1 b), ← sh b c a, sw_at e]
    have a2 : aft [((i + 1 : Nat) : Int), (i : Int), ((i + 1 : Nat) : Int)] (P ++ a :: b :: c :: T) = P ++ c :: b :: a :: T := by
      show swN (swN (swN _ _) _) _ = _
      rw [sh a b c, sw_at (l1 a), ← sh a c b, sw_at e, sh c a b, sw_at (l1 c), ← sh c b a]
    rw [d1, d2, a1, a2]
    refine ⟨rfl, ?_⟩
    obtain ⟨L, hL, hf⟩ := idn_split (P ++ a :: b :: c :: T).sum (p := [P.sum, a, b, c, T.sum]) (by simp [List.sum_append])
    obtain ⟨X, A, B, C, Y, rfl⟩ := len5 (by have := congrArg List.length hL; simpa using this)
    · simp only [List.map_cons, List.map_nil, List.cons.injEq, and_true] at hL
      obtain ⟨hX, hA, hB, hC, hY⟩ := hL
      have hf' : idn (P ++ a :: b :: c :: T).sum = X ++ (A ++ (B ++ (C ++ Y))) := by rw [← hf]; simp
      have hs := idn_sorted (P ++ a :: b :: c :: T).sum
      rw [hf', List.pairwise_append] at hs
      have p1 := hs.2.1
      rw [List.pairwise_append] at p1
      have p2 := p1.2.1
      rw [List.pairwise_append] at p2
      have hab : ∀ x ∈ A, ∀ y ∈ B, x < y := fun x hx y hy => p1.2.2 x hx y (by simp [hy])
      have hac : ∀ x ∈ A, ∀ y ∈ C, x < y := fun x hx y hy => p1.2.2 x hx y (by simp [hy])
      have hbc : ∀ x ∈ B, ∀ y ∈ C, x < y := fun x hx y hy => p2.2.2 x hx y (by simp [hy])
      have n1 : (P ++ [b]).sum = (X ++ B).length := by simp [List.sum_append]; omega
      have n2 : (P ++ [a]).sum = (X ++ A).length := by simp [List.sum_append]; omega
      have n3 : (P ++ [c]).sum = (X ++ C).length := by simp [List.sum_append]; omega
      rw [n1, n2, n3, ← hX, ← hA, ← hB, ← hC]
      have q1 := bl_asc (· < ·) X A B (C ++ Y) hab
      have r1 := bl_run X A B (C ++ Y)
      have q2 := bl_asc (· < ·) (X ++ B) A C Y hac
      have r2 := bl_run (X ++ B) A C Y
      have q3 := bl_asc (· < ·) X B C (A ++ Y) hbc
      have r3 := bl_run X B C (A ++ Y)
      have q4 := bl_asc (· < ·) (X ++ A) B C Y hbc
      have r4 := bl_run (X ++ A) B C Y
      have q5 := bl_asc (· < ·) X A C (B ++ Y) hac
      have r5 := bl_run X A C (B ++ Y)
      have q6 := bl_asc (· < ·) (X ++ C) A B Y hab
      have r6 := bl_run (X ++ C) A B Y
      rw [← hA, ← hB, ← hC] at hf'
      simp only [List.append_assoc] at hf' q1 r1 q2 r2 q3 r3 q4 r4 q5 r5 q6 r6 ⊢
      refine asc_wq ?_ ?_ ?_ ?_ ?_
      · rw [hf', asc_append, asc_append, r1, r2]; exact ⟨q1, q2, q3⟩
      · rw [hf', asc_append, asc_append, r4, r5]; exact ⟨q4, q5, q6⟩
      · rw [hf', run_append, run_append, run_append, run_append, r1, r2, r3, r4, r5, r6]
      · intro k hk
        rcases List.mem_append.1 hk with h | h
        · exact bl_pos _ _ _ k h
        · rcases List.mem_append.1 h with h | h <;> exact bl_pos _ _ _ k h
      · intro k hk
        rcases List.mem_append.1 hk with h | h
        · exact bl_pos _ _ _ k h
        · rcases List.mem_append.1 h with h | h <;> exact bl_pos _ _ _ k h

/-- far positive letters in either order -/
theorem De.comm_pp {n : Nat} {x y : Int} (hx : Lv n x) (hy : Lv n y) (px : 0 < x) (py : 0 < y) (h : x + 2 ≤ y ∨ y + 2 ≤ x) : De n [x, y] [y, x] := by
  obtain ⟨i, rfl⟩ : ∃ i : Nat, x = i := ⟨x.toNat, by omega⟩
  obtain ⟨j, rfl⟩ : ∃ j : Nat, y = j := ⟨y.toNat, by omega⟩
  have h1 := hx.2
  have h2 := hy.2
  rcases h with h | h
  · exact De.comm_pos (by omega) (by omega) (by omega)
  · exact (De.comm_pos (by omega) (by omega) (by omega)).symm
theorem De.comm_pn {n : Nat} {x y : Int} (hx : Lv n x) (hy : Lv n y) (px : 0 < x) (py : 0 < y) (h : x + 2 ≤ y ∨ y + 2 ≤ x) : De n [x, -y] [-y, x] := by
  have c := De.comm_pp hx hy px py h
  have lx : ∀ k ∈ [x], Lv n k := by simpa using hx
  have ly : ∀ k ∈ [y], Lv n k := by simpa using hy
  have ln : ∀ k ∈ [-y], Lv n k := by simpa using hy.neg
  -- -y x ~ -y x y -y ~ -y y x -y ~ x -y
  have a1 : De n ([-y] ++ ([x] ++ [y, -y])) ([-y] ++ ([x] ++ [])) := De.app ln (De.refl n _) (De.app lx (De.refl n _) (De.cancel hy))
  have lxy : ∀ k ∈ [x, y], Lv n k := by
    intro k hk
    rcases List.mem_cons.1 hk with rfl | hk
    · exact hx
    · obtain rfl : k = y := by simpa using hk
      exact hy
  have a2 : De n ([-y] ++ ([x, y] ++ [-y])) ([-y] ++ ([y, x] ++ [-y])) := De.app ln (De.refl n _) (De.app lxy c (De.refl n _))
  have a3 : De n ([-y, y] ++ ([x] ++ [-y])) ([] ++ ([x] ++ [-y])) := by
    refine De.app ?_ ?_ (De.refl n _)
    · intro k hk
      rcases List.mem_cons.1 hk with rfl | hk
      · exact hy.neg
      · obtain rfl : k = y := by simpa using hk
        exact hy
    · have := De.cancel hy.neg
      rwa [Int.neg_neg] at this
  exact (a1.symm.trans (a2.trans a3)).symm
theorem De.comm {n : Nat} {x y : Int} (hx : Lv n x) (hy : Lv n y) (h : x.natAbs + 2 ≤ y.natAbs ∨ y.natAbs + 2 ≤ x.natAbs) : De n [x, y] [y, x] := by
  have x0 := hx.1
  have y0 := hy.1
  rcases Int.lt_or_gt_of_ne x0 with px | px <;> rcases Int.lt_or_gt_of_ne y0 with py | py
  · have c := De.comm_pp hy.neg hx.neg (by omega) (by omega) (by omega)
    have := De.inv (w := [-y, -x]) (w' := [-x, -y]) (by
      intro k hk
      rcases List.mem_cons.1 hk with rfl | hk
      · exact hy.neg
      · obtain rfl : k = -x := by simpa using hk
        exact hx.neg) (by
      intro k hk
      rcases List.mem_cons.1 hk with rfl | hk
      · exact hx.neg
      · obtain rfl : k = -y := by simpa using hk
        exact hy.neg) c
    simpa [invI] using this
  · have := De.comm_pn hy hx.neg py (by omega) (by omega)
    rw [Int.neg_neg] at this
    exact this.symm
  · have := De.comm_pn hx hy.neg px (by omega) (by omega)
    rwa [Int.neg_neg] at this
  · exact De.comm_pp hx hy px py (by omega)
theorem De.braid_pp {n : Nat} {x y : Int} (hx : Lv n x) (hy : Lv n y) (px : 0 < x) (py : 0 < y) (h : x + 1 = y ∨ y + 1 = x) : De n [x, y, x] [y, x, y] := by
  obtain ⟨i, rfl⟩ : ∃ i : Nat, x = i := ⟨x.toNat, by omega⟩
  obtain ⟨j, rfl⟩ : ∃ j : Nat, y = j := ⟨y.toNat, by omega⟩
  have h1 := hx.2
  have h2 := hy.2
  rcases h with h | h
  · obtain rfl : j = i + 1 := by omega
    exact De.braid_pos (by omega) (by omega)
  · obtain rfl : i = j + 1 := by omega
    exact (De.braid_pos (by omega) (by omega)).symm
theorem De.braid {n : Nat} {x y : Int} (hx : Lv n x) (hy : Lv n y) (hs : 0 < x * y) (h : x + 1 = y ∨ y + 1 = x) : De n [x, y, x] [y, x, y] := by
  have x0 := hx.1
  rcases Int.lt_or_gt_of_ne x0 with px | px
  · have py : y < 0 := by
      rcases Int.lt_or_le y 0 with h1 | h1
      · exact h1
      · have := Int.mul_nonpos_of_nonpos_of_nonneg (Int.le_of_lt px) h1; omega
    have c := De.braid_pp hx.neg hy.neg (by omega) (by omega) (by omega)
    have l1 : ∀ k ∈ [-x, -y, -x], Lv n k := by
      intro k hk; simp at hk; rcases hk with rfl | rfl | rfl
      · exact hx.neg
      · exact hy.neg
      · exact hx.neg
    have l2 : ∀ k ∈ [-y, -x, -y], Lv n k := by
      intro k hk; simp at hk; rcases hk with rfl | rfl | rfl
      · exact hy.neg
      · exact hx.neg
      · exact hy.neg
    have := De.inv l1 l2 c
    simpa [invI] using this
  · have py : 0 < y := by
      rcases Int.lt_or_le 0 y with h1 | h1
      · exact h1
      · have := Int.mul_nonpos_of_nonneg_of_nonpos (Int.le_of_lt px) h1; omega
    exact De.braid_pp hx hy px py h

/-- one relation -/
inductive Rel1 (n : Nat) : List Int → List Int → Prop
  | cancel (u v : List Int) (x : Int) (h : Lv n x) : Rel1 n (u ++ v) (u ++ [x, -x] ++ v)
  | comm (u v : List Int) (x y : Int) (h : x.natAbs + 2 ≤ y.natAbs ∨ y.natAbs + 2 ≤ x.natAbs) : Rel1 n (u ++ [x, y] ++ v) (u ++ [y, x] ++ v)
  | braid (u v : List Int) (x y : Int) (hs : 0 < x * y) (h : x + 1 = y ∨ y + 1 = x) : Rel1 n (u ++ [x, y, x] ++ v) (u ++ [y, x, y] ++ v)
theorem Rel1.lv {n : Nat} {w w' : List Int} (h : Rel1 n w w') (hw : ∀ k ∈ w, Lv n k) : ∀ k ∈ w', Lv n k := by
  cases h with
  | cancel u v x hx =>
    intro k hk
    simp only [List.mem_append, List.mem_cons, List.not_mem_nil, or_false] at hk
    rcases hk with (hk | rfl | rfl) | hk
    · exact hw k (by simp [hk])
    · exact hx
    · exact hx.neg
    · exact hw k (by simp [hk])
  | comm u v x y _ =>
    intro k hk
    apply hw k
    simp only [List.mem_append, List.mem_cons, List.not_mem_nil, or_false] at hk ⊢
    rcases hk with (hk | rfl | rfl) | hk <;> simp [*]
  | braid u v x y _ _ =>
    intro k hk
    apply hw k
    simp only [List.mem_append, List.mem_cons, List.not_mem_nil, or_false] at hk ⊢
    rcases hk with (hk | rfl | rfl | rfl) | hk <;> simp [*]
theorem Rel1.de {n : Nat} {w w' : List Int} (h : Rel1 n w w') (hw : ∀ k ∈ w, Lv n k) : De n w w' := by
  cases h with
  | cancel u v x hx =>
    have h1 : De n (u ++ ([x, -x] ++ v)) (u ++ ([] ++ v)) := De.app (fun k hk => hw k (by simp [hk])) (De.refl n _) (De.app (by
      intro k hk
      rcases List.mem_cons.1 hk with rfl | hk
      · exact hx
      · obtain rfl : k = -x := by simpa using hk
        exact hx.neg) (De.cancel hx) (De.refl n _))
    have := h1.symm
    simpa using this
  | comm u v x y hh =>
    have hx : Lv n x := hw x (by simp)
    have hy : Lv n y := hw y (by simp)
    have h1 : De n (u ++ ([x, y] ++ v)) (u ++ ([y, x] ++ v)) := De.app (fun k hk => hw k (by simp [hk])) (De.refl n _) (De.app (by
      intro k hk
      exact hw k (by simp at hk ⊢; rcases hk with rfl | rfl <;> simp)) (De.comm hx hy hh) (De.refl n _))
    simpa using h1
  | braid u v x y hs hh =>
    have hx : Lv n x := hw x (by simp)
    have hy : Lv n y := hw y (by simp)
    have h1 : De n (u ++ ([x, y, x] ++ v)) (u ++ ([y, x, y] ++ v)) := De.app (fun k hk => hw k (by simp [hk])) (De.refl n _) (De.app (by
      intro k hk
      exact hw k (by simp at hk ⊢; rcases hk with rfl | rfl | rfl <;> simp)) (De.braid hx hy hs hh) (De.refl n _))
    simpa using h1
/-- any number of relations -/
inductive Rels (n : Nat) : List Int → List Int → Prop
  | refl (w : List Int) : Rels n w w
  | step {u v w : List Int} (h : Rels n u v) (k : Rel1 n v w) : Rels n u w
theorem Rels.trans {n : Nat} {u v w : List Int} (h : Rels n u v) (k : Rels n v w) : Rels n u w := by
  induction k with
  | refl => exact h
  | step _ k ih => exact .step ih k
theorem Rels.lv {n : Nat} {w w' : List Int} (h : Rels n w w') (hw : ∀ k ∈ w, Lv n k) : ∀ k ∈ w', Lv n k := by
  induction h with
  | refl => exact hw
  | step _ k ih => exact k.lv ih
theorem Rels.de {n : Nat} {w w' : List Int} (h : Rels n w w') (hw : ∀ k ∈ w, Lv n k) : De n w w' := by
  induction h with
  | refl => exact De.refl n _
  | step h k ih => exact ih.trans (k.de (h.lv hw))

/-- single strands: the word itself -/
theorem dw_ones {n : Nat} (w : List Int) (hw : ∀ k ∈ w, Lv n k) : dw w (List.replicate n 1) = w := by
  induction w with
  | nil => rfl
  | cons k w ih =>
    have hk := hw k (by simp)
    obtain ⟨P, a, b, Q, hs, e⟩ := split_at (s := List.replicate n 1) (by simp) hk
    have ha : ∀ x ∈ P ++ a :: b :: Q, x = 1 := by rw [← hs]; intro x hx; exact (List.mem_replicate.1 hx).2
    have h1 : a = 1 := ha a (by simp)
    have h2 : b = 1 := ha b (by simp)
    have hP : P = List.replicate P.length 1 := List.eq_replicate_iff.2 ⟨rfl, fun x hx => ha x (by simp [hx])⟩
    subst h1 h2
    have e1 : dl (List.replicate n 1) k = [k] := by
      rw [hs, dl_mid P Q 1 1 k e]
      have : P.sum = P.length := by rw [hP]; simp
      rw [this]
      simp only [bl, rowL, List.append_nil, List.map_cons, List.map_nil]
      congr 1
      rcases Int.lt_or_gt_of_ne hk.1 with h | h
      · rw [sign_neg h]; omega
      · rw [sign_pos h]; omega
    have e2 : swN (List.replicate n 1) (k.natAbs - 1) = List.replicate n 1 := by
      rw [hs, show k.natAbs - 1 = P.length by omega, swN_mid]
    rw [dw, e1, e2, ih fun x hx => hw x (by simp [hx])]; rfl
/-- relations keep the normal form -/
theorem Rels.nfW {n : Nat} {w w' : List Int} (h : Rels n w w') (hw : ∀ k ∈ w, Lv n k) : nfW n w = nfW n w' := by
  have h1 := (h.de hw (List.replicate n 1) (by simp)).2
  rw [dw_ones w hw, dw_ones w' (h.lv hw)] at h1
  have e : (List.replicate n 1).sum = n := by simp
  rw [e] at h1
  exact Gar.Wq.raw _ h1

end Go.Proofs.YtkgdbobhppmaiaaDoor

namespace Go.Proofs.YtkgdbobhppmaiaaDoor
open Pm

/-- the lists of numbers of permutations -/
def vals {n : Nat} (L : List (Pm n)) : List (List Int) := L.map (·.1)
@[simp] theorem length_vals {n : Nat} (L : List (Pm n)) : (vals L).length = L.length := by simp [vals]
def pat {n : Nat} (L : List (Pm n)) (i : Nat) : Pm n := L[i]?.getD (one n)
theorem pat_of {n : Nat} {L : List (Pm n)} {i : Nat} (h : i < L.length) : L[i]? = some (pat L i) := by simp [pat, h]
theorem rat_vals {n : Nat} {L : List (Pm n)} {i : Nat} (h : i < L.length) : rat (vals L) i = (pat L i).1 := by simp [rat, vals, pat, h]
theorem vals_set {n : Nat} (L : List (Pm n)) (i : Nat) (p : Pm n) : vals (L.set i p) = (vals L).set i p.1 := by simp [vals, List.map_set]
theorem vals_append {n : Nat} (L M : List (Pm n)) : vals (L ++ M) = vals L ++ vals M := by simp [vals]
theorem len_rat {n : Nat} {L : List (Pm n)} {i : Nat} (h : i < L.length) : (rat (vals L) i).length = n := by rw [rat_vals h, Pm.len]
theorem tot_vals {n : Nat} (L : List (Pm n)) : tot (vals L) = n * L.length := by
  induction L with
  | nil => simp [vals, tot]
  | cons p L ih =>
    show tot (p.1 :: vals L) = _
    rw [tot_cons, ih, p.len, List.length_cons]
    have : ((L.length + 1 : Nat) : Int) = (L.length : Int) + 1 := by omega
    rw [this, Int.mul_add]; omega

/-- the factors at i and i + 1 are replaced -/
def mv {n : Nat} (L : List (Pm n)) (i : Nat) (p q : Pm n) : List (Pm n) := (L.set i p).set (i + 1) q
@[simp] theorem length_mv {n : Nat} (L : List (Pm n)) (i : Nat) (p q : Pm n) : (mv L i p q).length = L.length := by simp [mv]
theorem two_at {n : Nat} {L : List (Pm n)} {i : Nat} (h : i + 1 < L.length) : ∃ A B, L = A ++ pat L i :: pat L (i + 1) :: B ∧ ∀ p q, mv L i p q = A ++ p :: q :: B := by
  refine ⟨L.take i, L.drop (i + 2), ?_, ?_⟩
  · have e1 : L.drop i = pat L i :: L.drop (i + 1) := by
      rw [List.drop_eq_getElem_cons (by omega)]; simp [pat, show i < L.length by omega]
    have e2 : L.drop (i + 1) = pat L (i + 1) :: L.drop (i + 2) := by
      rw [List.drop_eq_getElem_cons h]; simp [pat, h]
    rw [← e2, ← e1, List.take_append_drop]
  · intro p q
    unfold mv
    apply List.ext_getElem?
    intro j
    have hl : (L.take i).length = i := by simp; omega
    rw [List.getElem?_set, List.getElem?_set]
    by_cases h1 : i + 1 = j
    · subst h1; rw [if_pos rfl, List.getElem?_append_right (by omega), hl]; simp; omega
    · rw [if_neg h1]
      by_cases h2 : i = j
      · subst h2; rw [if_pos rfl, List.getElem?_append_right (by omega), hl]; simp; omega
      · rw [if_neg h2]
        by_cases h3 : j < i
        · rw [List.getElem?_append_left (by omega), List.getElem?_take, if_pos h3]
        · rw [List.getElem?_append_right (by omega), hl]
          obtain ⟨t, rfl⟩ : ∃ t, j = i + 2 + t := ⟨j - i - 2, by omega⟩
          rw [show i + 2 + t - i = t + 2 by omega]
          simp
theorem pat_mv {n : Nat} {L : List (Pm n)} {i j : Nat} {p q : Pm n} (h : i + 1 < L.length) : pat (mv L i p q) j = if j = i then p else if j = i + 1 then q else pat L j := by
  unfold pat mv
  rw [List.getElem?_set, List.getElem?_set]
  by_cases h1 : i + 1 = j
  · subst h1; simp [h]
  · rw [if_neg h1]
    by_cases h2 : i = j
    · subst h2
      rw [if_pos rfl, if_pos rfl]; simp [show i < L.length by omega]
    · rw [if_neg h2, if_neg (fun e => h2 e.symm), if_neg (fun e => h1 e.symm)]
/-- one letter is moved -/
theorem move_at {n : Nat} {L : List (Pm n)} {i : Nat} (h : i + 1 < L.length) {k : Nat} (hk : k < n) (h0 : 0 < k) (h1 : le (sg n k hk) (pat L (i + 1))) (h2 : (gar n).red (pat L i) (sg n k hk)) :
    (gar n).Eqv L (mv L i (mul (pat L i) (sg n k hk)) (mul (sg n k hk) (pat L (i + 1)))) ∧ far 0 (mv L i (mul (pat L i) (sg n k hk)) (mul (sg n k hk) (pat L (i + 1)))) = far 0 L - 1 := by
  obtain ⟨A, B, e1, e2⟩ := two_at h
  generalize pat L i = p at *
  generalize pat L (i + 1) = q at *
  rw [e2, e1]
  refine ⟨?_, far_move 0 A B p q _ _ (ni_back p hk h0 h2) (ni_front q hk h0 h1)⟩
  have := move_eqv p q hk h1 h2
  have h3 := (gar n).eqv_app ((gar n).eqv_refl A) ((gar n).eqv_app this ((gar n).eqv_refl B))
  simpa using h3
theorem wt_of_all {n : Nat} {L : List (Pm n)} (h : ∀ i, i + 1 < L.length → extraF (pat L i).1 (pat L (i + 1)).1 = 0) : (gar n).Wt L := by
  induction L with
  | nil => trivial
  | cons x L ih =>
    cases L with
    | nil => trivial
    | cons y L =>
      refine ⟨(extra_iff x y).1 (by have := h 0 (by simp); simpa [pat] using this), ih fun i hi => ?_⟩
      have := h (i + 1) (by simpa using hi)
      simpa [pat] using this
/-- the state behind a list that is left-weighted -/
theorem NF_of {n : Nat} {L L' : List (Pm n)} (he : (gar n).Eqv L L') (h : ∀ i, i + 1 < L'.length → extraF (pat L' i).1 (pat L' (i + 1)).1 = 0) : (gar n).NF (0, L) = ((gar n).tops L', L'.filter (gar n).mid) := by
  rw [(gar n).NF_eqv he, (gar n).NF_wt (wt_of_all h)]; congr 1; omega
theorem tops_take {n : Nat} {L : List (Pm n)} {k : Nat} (h : k < L.length) : (gar n).tops (L.take (k + 1)) = (gar n).tops (L.take k) + (if pat L k ≠ (gar n).one ∧ pat L k = (gar n).top then 1 else 0) := by
  rw [List.take_add_one, pat_of h]
  generalize L.take k = A
  generalize pat L k = x
  simp only [Option.toList_some]
  induction A with
  | nil => simp [Gar.tops]
  | cons y A ih =>
    rw [List.cons_append, Gar.tops, Gar.tops, ih]
    split <;> split <;> omega
theorem filter_take {n : Nat} {L : List (Pm n)} {k : Nat} (h : k < L.length) (f : Pm n → Bool) : (L.take (k + 1)).filter f = (L.take k).filter f ++ (if f (pat L k) then [pat L k] else []) := by
  rw [List.take_add_one, pat_of h, List.filter_append]
  congr 1
  simp [List.filter_cons]
theorem tops_le {n : Nat} (L : List (Pm n)) : 0 ≤ (gar n).tops L ∧ (gar n).tops L ≤ L.length := by
  induction L with
  | nil => simp [Gar.tops]
  | cons x L ih => rw [Gar.tops, List.length_cons]; split <;> omega
end Go.Proofs.YtkgdbobhppmaiaaDoor

namespace Go.Proofs.YtkgdbobhppmaiaaDoor
open Go.RowKit
open Pm

theorem swv_step {l : List Int} {k : Int} {j : Nat} (hj : j < l.length) : ((l.map (swv k)).take j ++ l.drop j).set j (swv k (nth l j)) = (l.map (swv k)).take (j + 1) ++ l.drop (j + 1) := by
  have h1 : ((l.map (swv k)).take j).length = j := by simp; omega
  rw [List.set_append_right _ _ (by omega), h1, Nat.sub_self, List.drop_eq_getElem_cons hj, List.set_cons_zero, List.take_add_one, nth_of (by simpa using hj), nth_map _ hj]
  simp
theorem swv_keep {l : List Int} {k : Int} {j : Nat} (hj : j < l.length) (h1 : nth l j ≠ k - 1) (h2 : nth l j ≠ k) : (l.map (swv k)).take (j + 1) ++ l.drop (j + 1) = (l.map (swv k)).take j ++ l.drop j := by
  rw [← swv_step hj]
  have e : swv k (nth l j) = nth ((l.map (swv k)).take j ++ l.drop j) j := by
    have h3 : ((l.map (swv k)).take j).length = j := by simp; omega
    have e0 : swv k (nth l j) = nth l j := by unfold swv; rw [if_neg h1, if_neg h2]
    rw [e0]
    unfold nth
    rw [List.getElem?_append_right (by omega), h3, Nat.sub_self, List.getElem?_drop, Nat.add_zero]
  rw [e]
  have hl : j < ((l.map (swv k)).take j ++ l.drop j).length := by simp; omega
  unfold nth
  rw [List.getElem?_eq_getElem hl]
  simp

/-- rows that can be read, all in blocks from lo on -/
structure RowsB (w : World) (lo : Nat) (vs : List Value) (ls : List (List Int)) : Prop where
  rows : RowsR w vs ls
  blks : ∀ i, i < ls.length → ∀ k, blk (vat vs i) = some k → lo ≤ k ∧ k < w.heap.size
theorem RowsB.below {w w' : World} {lo : Nat} {vs : List Value} {ls : List (List Int)} (h : RowsB w lo vs ls) (hb : Below w.heap.size w w') : RowsB w' lo vs ls :=
  ⟨h.rows.below hb, fun i hi k hk => by have := h.blks i hi k hk; have := hb.size; omega⟩
theorem vat_set {vs : List Value} {i : Nat} (h : i < vs.length) (u : Value) (j : Nat) : vat (vs.set i u) j = if i = j then u else vat vs j := by
  unfold vat; rw [List.getElem?_set]
  by_cases e : i = j
  · subst e; simp [h]
  · simp [e]
theorem rat_set {ls : List (List Int)} {i : Nat} (h : i < ls.length) (l : List Int) (j : Nat) : rat (ls.set i l) j = if i = j then l else rat ls j := by
  unfold rat; rw [List.getElem?_set]
  by_cases e : i = j
  · subst e; simp [h]
  · simp [e]
/-- a row of the call's own outer slice is replaced -/
theorem RowsB.set {w w' : World} {lo B : Nat} {eo ei : TypeId} {f : Value} {vs : List Value} {ls : List (List Int)} (h : RowsB w lo vs ls) (hf : Own w B eo f vs) (hap : ∀ i, i < ls.length → Apart (vat vs i) f) (hb : Below w.heap.size w w') {i : Nat} (hi : i < ls.length) {u : Value} {l : List Int}
    (hu : Own w' w.heap.size ei u (ints l)) (hlo : lo ≤ w.heap.size) :
    Own (w'.setCell (adr f i) u) B eo f (vs.set i u) ∧ RowsB (w'.setCell (adr f i) u) lo (vs.set i u) (ls.set i l) ∧ (∀ j, j < (ls.set i l).length → Apart (vat (vs.set i u) j) f) := by
  have hvl := h.rows.len
  have hiv : i < vs.length := by omega
  have hfb := (hf.below hb).adr_blk hiv
  have hfw := (hf.adr_blk hiv)
  have hapu : Apart u f := apart_new' hf hu
  have hkeep : ∀ {v : Value} {xs : List Value}, Reads w' v xs → Apart v f → Reads (w'.setCell (adr f i) u) v xs := fun hr ha =>
    hr.keep fun k hk _ => Below.heap_setCell _ _ _ _ (fun e => ha k hk (by rw [e]; exact hfw.1.symm))
  have hsz : (w'.setCell (adr f i) u).heap.size = w'.heap.size := by simp [World.setCell]
  refine ⟨(hf.below hb).set hiv u, ⟨⟨by simpa using hvl, fun j hj => ?_⟩, fun j hj k hk => ?_⟩, fun j hj => ?_⟩
  · rw [List.length_set] at hj
    rw [vat_set hiv, rat_set hi]
    by_cases e : i = j
    · rw [if_pos e, if_pos e]; exact hkeep hu.reads hapu
    · rw [if_neg e, if_neg e]; exact hkeep ((h.rows.row j hj).below hb) (hap j hj)
  · rw [List.length_set] at hj
    rw [vat_set hiv] at hk
    rw [hsz]
    by_cases e : i = j
    · rw [if_pos e] at hk; have := hu.blk_lt hk; omega
    · rw [if_neg e] at hk; have := h.blks j hj k hk; have := hb.size; omega
  · rw [List.length_set] at hj
    rw [vat_set hiv]
    by_cases e : i = j
    · rw [if_pos e]; exact hapu
    · rw [if_neg e]; exact hap j hj


end Go.Proofs.YtkgdbobhppmaiaaDoor

namespace Go.Proofs.YtkgdbobhppmaiaaDoor
open Go.RowKit


/-- whether factor i may stand in a normal form -/
def facOk (n : Int) (ls : List (List Int)) (i : Nat) : Bool := decide (((rat ls i).length : Int) = n) && okP (rat ls i) && !decide (rat ls i = idn n.toNat) && !decide (rat ls i = halfF n.toNat) && (i == 0 || extraF (rat ls (i - 1)) (rat ls i) == 0)
/-- whether a normal form is valid -/
def normB (n p : Int) (ls : List (List Int)) : Bool := inB n 0 12 && inB p (-100) 100 && decide (ls.length ≤ 100) && (decide (2 ≤ n) || p == 0) && (List.range ls.length).all (facOk n ls)
theorem facOk_of {n : Int} {ls : List (List Int)} {i : Nat} (h : facOk n ls i = true) : ((rat ls i).length : Int) = n ∧ okP (rat ls i) = true ∧ rat ls i ≠ idn n.toNat ∧ rat ls i ≠ halfF n.toNat ∧ (i = 0 ∨ extraF (rat ls (i - 1)) (rat ls i) = 0) := by
  simp [facOk] at h; obtain ⟨⟨⟨⟨a, b⟩, c⟩, d⟩, e⟩ := h; exact ⟨a, b, c, d, e⟩
theorem facOk_small {n : Int} (h : n < 2) (ls : List (List Int)) (i : Nat) : facOk n ls i = false := by
  cases e : facOk n ls i with
  | false => rfl
  | true =>
    obtain ⟨a, b, c, -⟩ := facOk_of e
    exact absurd (ext_nth (by simp; omega) fun j hj => by
      have hp := (okP_of b).2
      have h1 := hp.lo hj
      have h2 := hp.hi hj
      rw [nth_idn (by omega)]; omega) c
theorem all_no {f : Nat → Bool} {m i : Nat} (hi : i < m) (h : f i = false) : (List.range m).all f = false := by
  rw [List.all_eq_false]; exact ⟨i, by simpa using hi, by simp [h]⟩
theorem all_yes {f : Nat → Bool} {m : Nat} (h : ∀ i, i < m → f i = true) : (List.range m).all f = true := by
  rw [List.all_eq_true]; intro x hx; exact h x (by simpa using hx)
theorem normB_fac {n p : Int} {ls : List (List Int)} {i : Nat} (hi : i < ls.length) (h : facOk n ls i = false) : normB n p ls = false := by
  simp only [normB, all_no hi h, Bool.and_false]

end Go.Proofs.YtkgdbobhppmaiaaDoor

namespace Go.Proofs.YtkgdbobhppmaiaaDoor
open Go.RowKit
open Pm

/-- the state of a list under way: the call's own slice f with rows -/
structure SetC {n : Nat} (w wr : World) (f : Value) (lo : Nat) (L : List (Pm n)) (vs : List Value) : Prop where
  own : Own wr w.heap.size 35 f vs
  rows : RowsB wr lo vs (vals L)
  ap : ∀ i, i < L.length → Apart (vat vs i) f
  below : Below w.heap.size w wr
theorem SetC.len {n : Nat} {w wr : World} {f : Value} {lo : Nat} {L : List (Pm n)} {vs : List Value} (h : SetC w wr f lo L vs) : vs.length = L.length := by
  have := h.rows.rows.len; simpa using this
theorem SetC.next {n : Nat} {w wr w' : World} {f : Value} {lo : Nat} {L : List (Pm n)} {vs : List Value} (h : SetC w wr f lo L vs) (hb : Below wr.heap.size wr w') : SetC w w' f lo L vs :=
  ⟨h.own.below hb, h.rows.below hb, h.ap, h.below.trans (hb.mono h.below.size)⟩
theorem SetC.row {n : Nat} {w wr : World} {f : Value} {lo : Nat} {L : List (Pm n)} {vs : List Value} (h : SetC w wr f lo L vs) {i : Nat} (hi : i < L.length) : Reads wr (vat vs i) (ints (pat L i).1) := by
  have := h.rows.rows.row i (by simpa using hi)
  rwa [rat_vals hi] at this
theorem SetC.set {n : Nat} {w wr w' : World} {f : Value} {lo : Nat} {L : List (Pm n)} {vs : List Value} (h : SetC w wr f lo L vs) (hb : Below wr.heap.size wr w') (hlo : lo ≤ w.heap.size) {i : Nat} (hi : i < L.length) {u : Value} {p : Pm n}
    (hu : Own w' wr.heap.size 2 u (ints p.1)) : SetC w (w'.setCell (adr f i) u) f lo (L.set i p) (vs.set i u) := by
  have hsz := h.below.size
  obtain ⟨a, b, c⟩ := h.rows.set h.own (fun j hj => h.ap j (by simpa using hj)) hb (i := i) (by simpa using hi) (ei := 2) hu (by omega)
  refine ⟨a, ?_, ?_, (h.below.trans (hb.mono hsz)).setCell ((h.own.adr_blk (i := i) (by rw [h.len]; exact hi)).2.1) u⟩
  · rw [vals_set]; exact b
  · intro j hj; exact c j (by simpa using hj)
theorem mid_of_one {n : Nat} {p : Pm n} (h : p = one n) : (gar n).mid p = false := by
  have e : p = (gar n).one := h
  simp [Gar.mid, e]
theorem mid_of_top {n : Nat} {p : Pm n} (h : p = top n) : (gar n).mid p = false := by
  have e : p = (gar n).top := h
  simp [Gar.mid, e]
theorem mid_of_no {n : Nat} {p : Pm n} (h : ¬ p = one n) (h2 : ¬ p = top n) : (gar n).mid p = true := by
  have e : ¬ p = (gar n).one := h
  have e2 : ¬ p = (gar n).top := h2
  simp [Gar.mid, e, e2]
theorem RowsB.snoc {w : World} {lo : Nat} {vs : List Value} {ls : List (List Int)} {v : Value} {l : List Int} (h : RowsB w lo vs ls) (hv : Reads w v (ints l)) (hb : ∀ k, blk v = some k → lo ≤ k ∧ k < w.heap.size) : RowsB w lo (vs ++ [v]) (ls ++ [l]) := by
  have hl := h.rows.len
  refine ⟨⟨by simp [hl], fun i hi => ?_⟩, fun i hi k hk => ?_⟩
  · rw [List.length_append, List.length_singleton] at hi
    by_cases e : i < ls.length
    · rw [vat_snoc (by omega), rat_snoc e]; exact h.rows.row i e
    · obtain rfl : i = ls.length := by omega
      rw [rat_last, ← hl, vat_last]; exact hv
  · rw [List.length_append, List.length_singleton] at hi
    by_cases e : i < ls.length
    · rw [vat_snoc (by omega)] at hk; exact h.blks i e k hk
    · obtain rfl : i = ls.length := by omega
      rw [← hl, vat_last] at hk; exact hb k hk
def exl {n : Nat} (L : List (Pm n)) (j : Nat) : Int := extraF (pat L j).1 (pat L (j + 1)).1
theorem Pm.small {n : Nat} (p : Pm n) : ∀ i, i < p.1.length → 0 ≤ nth p.1 i ∧ nth p.1 i < p.1.length := p.2.2.range

end Go.Proofs.YtkgdbobhppmaiaaDoor

namespace Go.Proofs.YtkgdbobhppmaiaaDoor
open Go.RowKit
open Pm

/-- the call's own slice o of rows that can be read, in blocks from lo on, none of them o's own -/
structure RowsO (w : World) (lo B : Nat) (o : Value) (us : List Value) (ls : List (List Int)) : Prop where
  own : Own w B 35 o us
  rows : RowsB w lo us ls
  ap : ∀ i, i < ls.length → Apart (vat us i) o
theorem RowsO.below {w w' : World} {lo B : Nat} {o : Value} {us : List Value} {ls : List (List Int)} (h : RowsO w lo B o us ls) (hb : Below w.heap.size w w') : RowsO w' lo B o us ls := ⟨h.own.below hb, h.rows.below hb, h.ap⟩
theorem RowsO.lower {w : World} {lo lo' B B' : Nat} {o : Value} {us : List Value} {ls : List (List Int)} (h : RowsO w lo B o us ls) (h1 : lo' ≤ lo) (h2 : B' ≤ B) : RowsO w lo' B' o us ls := ⟨h.own.mono h2, ⟨h.rows.rows, fun i hi k hk => by have := h.rows.blks i hi k hk; omega⟩, h.ap⟩
theorem RowsO.empty (w : World) (lo B : Nat) (hB : B ≤ w.heap.size) : RowsO (w.alloc (.cells #[] 35)) lo B (.slice (some ⟨w.heap.size, 0, none⟩) 0 0) [] [] :=
  ⟨own_empty w _ hB, ⟨⟨rfl, fun i hi => absurd hi (by simp)⟩, fun i hi => absurd hi (by simp)⟩, fun i hi => absurd hi (by simp)⟩
theorem RowsO.len {w : World} {lo B : Nat} {o : Value} {us : List Value} {ls : List (List Int)} (h : RowsO w lo B o us ls) : us.length = ls.length := h.rows.rows.len
theorem Bx.belowB {w w' : World} {g B : Nat} {cs : List Value} (h : Bx w g cs) (hb : Below B w w') (hg : g < B) : Bx w' g cs := h.keep (hb.block g hg)
theorem RowsB.set_block {w : World} {lo : Nat} {us : List Value} {ls : List (List Int)} (h : RowsB w lo us ls) {g : Nat} (h1 : g < lo) (i : Nat) (x : Value) : RowsB (w.setCell ⟨g, i, none⟩ x) lo us ls :=
  ⟨⟨h.rows.len, fun j hj => (h.rows.row j hj).keep fun k hk _ => Below.heap_setCell _ _ _ _ (fun e => by have := h.blks j hj k hk; simp at e; omega)⟩, fun j hj k hk => by have := h.blks j hj k hk; simpa [World.setCell] using this⟩
theorem RowsB.lower {w : World} {lo lo' : Nat} {us : List Value} {ls : List (List Int)} (h : RowsB w lo us ls) (h1 : lo' ≤ lo) : RowsB w lo' us ls := ⟨h.rows, fun i hi k hk => by have := h.blks i hi k hk; omega⟩
theorem RowsO.set_block {w : World} {lo B : Nat} {o : Value} {us : List Value} {ls : List (List Int)} (h : RowsO w lo B o us ls) {g : Nat} (h1 : g < lo) (h2 : g < B) (i : Nat) (x : Value) : RowsO (w.setCell ⟨g, i, none⟩ x) lo B o us ls :=
  ⟨h.own.set_block h2 i x, ⟨⟨h.rows.rows.len, fun j hj => (h.rows.rows.row j hj).keep fun k hk _ => Below.heap_setCell _ _ _ _ (fun e => by have := h.rows.blks j hj k hk; simp at e; omega)⟩, fun j hj k hk => by have := h.rows.blks j hj k hk; simpa [World.setCell] using this⟩, h.ap⟩
/-- a row is put behind -/
theorem RowsO.app {w : World} {lo B : Nat} {o u : Value} {us : List Value} {ls : List (List Int)} {l : List Int} (h : RowsO w lo B o us ls) (hu : Reads w u (ints l)) (hk : ∀ k, blk u = some k → lo ≤ k ∧ k < w.heap.size) (hap : Apart u o) (h1 : u.oneCell' = true) (hB : B ≤ w.heap.size) (hl : us.length ≤ 1048576) :
    ∃ v' w', (Builtin.append_ #[101, 101] 101 #[o, .slice (some ⟨w.heap.size, 0, none⟩) 1 1]).run Tryd.prog (w.alloc (.cells #[u] 35)) = .ok v' w' ∧ RowsO w' lo B v' (us ++ [u]) (ls ++ [l]) ∧ Below B w w' := by
  have ha : Below w.heap.size w (w.alloc (.cells #[u] 35)) := (Below.refl _ _).alloc (Nat.le_refl _) _
  have hA := h.below ha
  obtain ⟨v', w', hr, ho, hg, hst⟩ := app_runF (ty := 101) sliceII infoSI rfl hA.own (reads_one w u 35) (by simpa using h1) (by simp; omega) (by simp; omega) (by decide)
  have hbw : Below B w w' := (ha.mono hB).grown hg (by simp; omega) (fun k hk => (hA.own.blk_lt hk).1)
  have hsz := hbw.size
  have hkeep : ∀ {v : Value} {xs : List Value}, Reads w v xs → Apart v o → Reads w' v xs := fun {v xs} hr ha2 =>
    (hr.below ha).keep fun k hk hlt => hg.block k hlt (fun e => ha2 k hk e)
  have hst' : ∀ {v : Value}, (∀ k, blk v = some k → k < w.heap.size) → Apart v o → Apart v v' := fun {v} hv ha2 k hk e => by
    rcases hst k e.symm with h1 | h1
    · exact ha2 k hk h1.symm
    · have := hv k hk; simp at h1; omega
  have hl := h.len
  refine ⟨v', w', hr, ⟨ho, ⟨⟨by simp [hl], fun i hi => ?_⟩, fun i hi k hk' => ?_⟩, fun i hi => ?_⟩, hbw⟩
  · rw [List.length_append, List.length_singleton] at hi
    by_cases e : i < ls.length
    · rw [vat_snoc (by omega), rat_snoc e]; exact hkeep (h.rows.rows.row i e) (h.ap i e)
    · obtain rfl : i = ls.length := by omega
      rw [rat_last, ← hl, vat_last]; exact hkeep hu hap
  · rw [List.length_append, List.length_singleton] at hi
    by_cases e : i < ls.length
    · rw [vat_snoc (by omega)] at hk'; have := h.rows.blks i e k hk'; omega
    · obtain rfl : i = ls.length := by omega
      rw [← hl, vat_last] at hk'; have := hk k hk'; omega
  · rw [List.length_append, List.length_singleton] at hi
    by_cases e : i < ls.length
    · rw [vat_snoc (by omega)]; exact hst' (fun k hk => (h.rows.blks i e k hk).2) (h.ap i e)
    · obtain rfl : i = ls.length := by omega
      rw [← hl, vat_last]; exact hst' (fun k hk' => (hk k hk').2) hap
/-- a row that the call has just made is put behind -/
theorem RowsO.new {w w1 : World} {lo B : Nat} {o u : Value} {us : List Value} {ls : List (List Int)} {l : List Int} (h : RowsO w lo B o us ls) (hb : Below w.heap.size w w1) (hu : Own w1 w.heap.size 2 u (ints l)) (hlo : lo ≤ w.heap.size) (hB : B ≤ w.heap.size) (hl : us.length ≤ 1048576) :
    ∃ v' w', (Builtin.append_ #[101, 101] 101 #[o, .slice (some ⟨w1.heap.size, 0, none⟩) 1 1]).run Tryd.prog (w1.alloc (.cells #[u] 35)) = .ok v' w' ∧ RowsO w' lo B v' (us ++ [u]) (ls ++ [l]) ∧ Below B w1 w' := by
  have hsz := hb.size
  refine (h.below hb).app hu.reads (fun k hk => by have := hu.blk_lt hk; omega) (apart_new' h.own hu) ?_ (by omega) hl
  obtain ⟨a, c, e, -⟩ := hu.reads.form
  rw [e]; rfl
theorem take_pat {n : Nat} {L : List (Pm n)} {j : Nat} (h : j < L.length) : L.take (j + 1) = L.take j ++ [pat L j] := by rw [List.take_add_one, pat_of h]; rfl

theorem inv_sg {n k : Nat} (h : k < n) : (gar n).inv (sg n k h) = sg n k h := (gar n).mul_left (a := sg n k h) (by rw [(gar n).mul_inv]; exact (sg_sg h).symm)
theorem stp_up {n : Nat} {k : Int} (h0 : 0 < k) (h1 : k.toNat < n) (x : Gar.St (Pm n)) : (gar n).stp x (ltr n k) = (x.1, x.2 ++ [mul (one n) (sg n k.toNat h1)]) := by
  have e1 : ltr n k = (true, sg n k.toNat h1) := by
    unfold ltr
    rw [show k.natAbs = k.toNat by omega, sgT_eq h1]; simp [h0]
  rw [e1, Gar.stp_pos]
  congr 2
  exact congrArg (fun y => [y]) ((gar n).one_mul _).symm
theorem stp_down {n m : Nat} (h0 : 0 < m) (h1 : m < n) (x : Gar.St (Pm n)) : (gar n).stp x (ltr n (-(m : Int))) = (x.1 - 1, x.2.map (gar n).tau ++ [mul (top n) (sg n m h1)]) := by
  have e1 : ltr n (-(m : Int)) = (false, sg n m h1) := by
    unfold ltr
    rw [show (-(m : Int)).natAbs = m by omega, sgT_eq h1]; simp
  rw [e1, Gar.stp_neg, inv_sg]; rfl
/-- the state behind the first letters -/
def stTo (n : Nat) (l : List Int) (j : Nat) : Gar.St (Pm n) := (gar n).raw (lts n (l.take j))
theorem stTo_zero (n : Nat) (l : List Int) : stTo n l 0 = (0, []) := rfl
theorem stTo_succ {n : Nat} {l : List Int} {j : Nat} (h : j < l.length) : stTo n l (j + 1) = (gar n).stp (stTo n l j) (ltr n (nth l j)) := by
  unfold stTo
  rw [List.take_add_one, nth_of h, Option.toList_some, lts_append, Gar.raw_append]; rfl
theorem stTo_len {n : Nat} (l : List Int) (j : Nat) : (stTo n l j).2.length ≤ j ∧ -(j : Int) ≤ (stTo n l j).1 ∧ (stTo n l j).1 ≤ 0 := by
  induction j with
  | zero => simp [stTo_zero]
  | succ j ih =>
    by_cases h : j < l.length
    · rw [stTo_succ h]
      unfold Gar.stp
      split
      · simp; omega
      · simp; omega
    · have e : stTo n l (j + 1) = stTo n l j := by unfold stTo; rw [List.take_of_length_le (by omega), List.take_of_length_le (by omega)]
      rw [e]; omega
theorem nfW_of {n : Nat} (l : List Int) : nfW n l = ((stTo n l l.length).1 + ((gar n).NF (0, (stTo n l l.length).2)).1, ((gar n).NF (0, (stTo n l l.length).2)).2) := by
  have e : (gar n).raw (lts n l) = stTo n l l.length := by unfold stTo; rw [List.take_length]
  unfold nfW
  rw [e]
  have := (gar n).NF_up (stTo n l l.length).1 0 (stTo n l l.length).2
  rw [show (0 : Int) + (stTo n l l.length).1 = (stTo n l l.length).1 by omega] at this
  show (gar n).NF ((stTo n l l.length).1, (stTo n l l.length).2) = _
  rw [this, Int.add_comm]

end Go.Proofs.YtkgdbobhppmaiaaDoor
