/- Meets of permutations: the pairs that do not cross are closed under going on; the greatest common beginning. Plain. -/
import Derived.Test.YtmeccemnmkobbaaPm
namespace Go.Proofs.Ytmeccemnmkobbaa

theorem cnt_le_cnt {f h : Nat → Bool} {n : Nat} (hm : ∀ z, z < n → f z = true → h z = true) : cnt f n ≤ cnt h n := by
  induction n with
  | zero => exact Int.le_refl _
  | succ n ih =>
    have := ih (fun z hz => hm z (by omega))
    have := hm n (by omega)
    rw [cnt_succ, cnt_succ]
    cases e1 : f n <;> cases e2 : h n <;> simp_all <;> omega
theorem cnt_lt_cnt {f h : Nat → Bool} {n : Nat} (hm : ∀ z, z < n → f z = true → h z = true) {z : Nat} (hz : z < n) (h1 : h z = true) (h2 : f z = false) : cnt f n < cnt h n := by
  induction n with
  | zero => omega
  | succ n ih =>
    rw [cnt_succ, cnt_succ]
    by_cases e : z = n
    · subst e
      have := cnt_le_cnt (f := f) (h := h) (n := z) (fun y hy => hm y (by omega))
      simp [h1, h2]; omega
    · have := ih (fun y hy => hm y (by omega)) (by omega)
      have := hm n (by omega)
      cases e1 : f n <;> cases e2 : h n <;> simp_all <;> omega

/-- pairs i < j < n that are closed under going on, and their complement too -/
structure Bi (n : Nat) (E : Nat → Nat → Bool) : Prop where
  yes : ∀ i j k, i < j → j < k → k < n → E i j = true → E j k = true → E i k = true
  no : ∀ i j k, i < j → j < k → k < n → E i j = false → E j k = false → E i k = false

/-- y comes before x -/
def bef (E : Nat → Nat → Bool) (x y : Nat) : Bool := if x < y then E x y else if y < x then !E y x else false
theorem bef_irr (E : Nat → Nat → Bool) (x : Nat) : bef E x x = false := by simp [bef]
theorem bef_asymm (E : Nat → Nat → Bool) {x y : Nat} (h : x ≠ y) : bef E x y = !bef E y x := by
  unfold bef
  rcases Nat.lt_or_gt_of_ne h with h1 | h1
  · rw [if_pos h1, if_neg (by omega), if_pos h1]; simp
  · rw [if_neg (by omega), if_pos h1, if_pos h1]
theorem bef_trans {n : Nat} {E : Nat → Nat → Bool} (hE : Bi n E) {x y z : Nat} (hx : x < n) (hy : y < n) (hz : z < n) (h1 : bef E x y = true) (h2 : bef E y z = true) : bef E x z = true := by
  unfold bef at h1 h2 ⊢
  rcases Nat.lt_trichotomy x y with a | a | a
  · rw [if_pos a] at h1
    rcases Nat.lt_trichotomy y z with b | b | b
    · rw [if_pos b] at h2
      rw [if_pos (by omega)]
      exact hE.yes x y z a b hz h1 h2
    · subst b; simp at h2
    · rw [if_neg (by omega), if_pos b] at h2
      rcases Nat.lt_trichotomy x z with c | c | c
      · rw [if_pos c]
        cases e : E x z with
        | true => rfl
        | false => rw [hE.no x z y c b hy e (by simpa using h2)] at h1; cases h1
      · subst c; rw [h1] at h2; simp at h2
      · rw [if_neg (by omega), if_pos c]
        cases e : E z x with
        | false => rfl
        | true => rw [hE.yes z x y c a hy e h1] at h2; simp at h2
  · subst a; simp at h1
  · rw [if_neg (by omega), if_pos a] at h1
    rcases Nat.lt_trichotomy y z with b | b | b
    · rw [if_pos b] at h2
      rcases Nat.lt_trichotomy x z with c | c | c
      · rw [if_pos c]
        cases e : E x z with
        | true => rfl
        | false => rw [hE.no y x z a c hz (by simpa using h1) e] at h2; cases h2
      · subst c; rw [h2] at h1; simp at h1
      · rw [if_neg (by omega), if_pos c]
        cases e : E z x with
        | false => rfl
        | true => rw [hE.yes y z x b c hx h2 e] at h1; simp at h1
    · subst b; simp at h2
    · rw [if_neg (by omega), if_pos b] at h2
      rw [if_neg (by omega), if_pos (by omega)]
      rw [hE.no z y x b a hx (by simpa using h2) (by simpa using h1)]; rfl

/-- the place of x: how many come before -/
def rankB (E : Nat → Nat → Bool) (n x : Nat) : Nat := (cnt (bef E x) n).toNat
theorem rankB_lt {n : Nat} {E : Nat → Nat → Bool} (hE : Bi n E) {x y : Nat} (hx : x < n) (hy : y < n) (h : bef E x y = true) : rankB E n y < rankB E n x := by
  have := cnt_lt_cnt (f := bef E y) (h := bef E x) (n := n) (fun z hz h2 => bef_trans hE hx hy hz h h2) hy h (bef_irr E y)
  have := cnt_nonneg (bef E y) n
  unfold rankB; omega
theorem rankB_bound {E : Nat → Nat → Bool} {n x : Nat} (hx : x < n) : rankB E n x < n := by
  have h1 := cnt_lt_cnt (f := bef E x) (h := fun _ => true) (n := n) (fun _ _ _ => rfl) hx rfl (bef_irr E x)
  have h2 := cnt_le (fun _ => true) n
  have := cnt_nonneg (bef E x) n
  unfold rankB; omega
theorem rankB_inj {n : Nat} {E : Nat → Nat → Bool} (hE : Bi n E) {x y : Nat} (hx : x < n) (hy : y < n) (e : rankB E n x = rankB E n y) : x = y := by
  rcases Nat.decEq x y with h | h
  · exfalso
    cases b : bef E x y with
    | true => have := rankB_lt hE hx hy b; omega
    | false =>
      have := rankB_lt hE hy hx (by rw [bef_asymm E (Ne.symm h), b]; rfl); omega
  · exact h

namespace Pm
variable {n : Nat}
/-- the permutation whose crossing pairs are E -/
def ofB (n : Nat) (E : Nat → Nat → Bool) (hE : Bi n E) : Pm n := ofFn n (rankB E n) (fun _ h => rankB_bound h) (fun _ _ h1 h2 e => rankB_inj hE h1 h2 e)
theorem ofB_cross {E : Nat → Nat → Bool} (hE : Bi n E) {i j : Nat} (hij : i < j) (hj : j < n) : (ofB n E hE).at' j < (ofB n E hE).at' i ↔ E i j = true := by
  have hi : i < n := by omega
  unfold ofB
  rw [at_ofFn hj, at_ofFn hi]
  have hb : bef E i j = E i j := by unfold bef; rw [if_pos hij]
  constructor
  · intro h
    cases e : E i j with
    | true => rfl
    | false =>
      have := rankB_lt hE hj hi (by rw [bef_asymm E (by omega), hb, e]; rfl)
      omega
  · intro h
    exact rankB_lt hE hi hj (by rw [hb, h])
/-- the crossing pairs of a permutation -/
def cr (p : Pm n) (i j : Nat) : Bool := decide (p.at' j < p.at' i)
theorem cr_bi (p : Pm n) : Bi n p.cr := by
  refine ⟨?_, ?_⟩
  · intro i j k _ _ _ h1 h2
    simp only [cr, decide_eq_true_eq] at h1 h2 ⊢; omega
  · intro i j k _ _ _ h1 h2
    simp only [cr, decide_eq_false_iff_not] at h1 h2 ⊢; omega
end Pm

/-- from i to j by steps of R that go up -/
def reach (R : Nat → Nat → Bool) : Nat → Nat → Nat → Bool
  | 0, _, _ => false
  | w + 1, i, j => R i j || (List.range j).any fun k => decide (i < k) && R i k && reach R w k j
theorem reach_succ (R : Nat → Nat → Bool) (w i j : Nat) : reach R (w + 1) i j = true ↔ R i j = true ∨ ∃ k, i < k ∧ k < j ∧ R i k = true ∧ reach R w k j = true := by
  rw [reach, Bool.or_eq_true, List.any_eq_true]
  constructor
  · rintro (h | ⟨k, hk, h⟩)
    · exact .inl h
    · simp only [Bool.and_eq_true, decide_eq_true_eq, List.mem_range] at h hk
      exact .inr ⟨k, h.1.1, hk, h.1.2, h.2⟩
  · rintro (h | ⟨k, h1, h2, h3, h4⟩)
    · exact .inl h
    · exact .inr ⟨k, by simpa using h2, by simp [h1, h3, h4]⟩
theorem reach_mono {R : Nat → Nat → Bool} {w v i j : Nat} (h : w ≤ v) (hr : reach R w i j = true) : reach R v i j = true := by
  induction w generalizing v i with
  | zero => cases hr
  | succ w ih =>
    obtain ⟨v, rfl⟩ : ∃ u, v = u + 1 := ⟨v - 1, by omega⟩
    rw [reach_succ] at hr ⊢
    rcases hr with h1 | ⟨k, h1, h2, h3, h4⟩
    · exact .inl h1
    · exact .inr ⟨k, h1, h2, h3, ih (by omega) h4⟩
theorem reach_short {R : Nat → Nat → Bool} {w i j : Nat} (hij : i < j) (hr : reach R w i j = true) : reach R (j - i) i j = true := by
  induction w generalizing i with
  | zero => cases hr
  | succ w ih =>
    obtain ⟨v, hv⟩ : ∃ u, j - i = u + 1 := ⟨j - i - 1, by omega⟩
    rw [hv, reach_succ]
    rw [reach_succ] at hr
    rcases hr with h1 | ⟨k, h1, h2, h3, h4⟩
    · exact .inl h1
    · exact .inr ⟨k, h1, h2, h3, reach_mono (by omega) (ih h2 h4)⟩
/-- the closure of R under going on -/
def clos (R : Nat → Nat → Bool) (i j : Nat) : Bool := reach R j i j
theorem clos_of {R : Nat → Nat → Bool} {w i j : Nat} (hij : i < j) (hr : reach R w i j = true) : clos R i j = true := reach_mono (by omega) (reach_short hij hr)
theorem clos_base {R : Nat → Nat → Bool} {i j : Nat} (hij : i < j) (h : R i j = true) : clos R i j = true := clos_of (w := 1) hij (by rw [reach_succ]; exact .inl h)
theorem reach_trans {R : Nat → Nat → Bool} {w v i j k : Nat} (hij : i < j) (hjk : j < k) (h1 : reach R w i j = true) (h2 : reach R v j k = true) : reach R (w + v) i k = true := by
  induction w generalizing i with
  | zero => cases h1
  | succ w ih =>
    rw [show w + 1 + v = (w + v) + 1 by omega, reach_succ]
    rw [reach_succ] at h1
    rcases h1 with h | ⟨m, a, b, c, d⟩
    · exact .inr ⟨j, hij, hjk, h, reach_mono (by omega) h2⟩
    · exact .inr ⟨m, a, by omega, c, ih b d⟩
theorem clos_trans {R : Nat → Nat → Bool} {i j k : Nat} (hij : i < j) (hjk : j < k) (h1 : clos R i j = true) (h2 : clos R j k = true) : clos R i k = true := clos_of (by omega) (reach_trans hij hjk h1 h2)
/-- what holds of R and goes on holds of the closure -/
theorem clos_ind {R : Nat → Nat → Bool} {n : Nat} {P : Nat → Nat → Prop} (hb : ∀ i j, i < j → j < n → R i j = true → P i j) (ht : ∀ i j k, i < j → j < k → k < n → P i j → P j k → P i k) {i j : Nat} (hij : i < j) (hj : j < n) (h : clos R i j = true) : P i j := by
  have key : ∀ w i, i < j → reach R w i j = true → P i j := by
    intro w
    induction w with
    | zero => intro i _ h; cases h
    | succ w ih =>
      intro i hij h
      rw [reach_succ] at h
      rcases h with h | ⟨k, a, b, c, d⟩
      · exact hb i j hij hj h
      · exact ht i k j a b hj (hb i k a (by omega) c) (ih k b d)
  exact key _ i hij h
/-- if what R lacks comes from two sets whose complements go on, the closure's complement goes on -/
theorem clos_no {R A B : Nat → Nat → Bool} {n : Nat} (hR : ∀ i j, i < j → j < n → R i j = (A i j || B i j)) (hA : Bi n A) (hB : Bi n B) : Bi n (clos R) := by
  refine ⟨fun i j k hij hjk _ h1 h2 => clos_trans hij hjk h1 h2, ?_⟩
  intro i j k hij hjk hk h1 h2
  cases e : clos R i k with
  | false => rfl
  | true =>
    exfalso
    have key : ∀ w i, i < j → clos R i j = false → reach R w i k = true → False := by
      intro w
      induction w with
      | zero => intro i _ _ h; cases h
      | succ w ih =>
        intro i hij h1 h
        rw [reach_succ] at h
        have step : ∀ m, j < m → m ≤ k → R i m = true → (m = k ∨ clos R m k = true) → False := by
          intro m hm hmk hR' hrest
          rw [hR i m (by omega) (by omega), Bool.or_eq_true] at hR'
          have fin : ∀ C : Nat → Nat → Bool, Bi n C → (∀ a b, a < b → b < n → C a b = true → R a b = true) → C i m = true → False := by
            intro C hC hCR hc
            cases e1 : C i j with
            | true => rw [clos_base hij (hCR i j hij (by omega) e1)] at h1; cases h1
            | false =>
              cases e2 : C j m with
              | false => rw [hC.no i j m hij hm (by omega) e1 e2] at hc; cases hc
              | true =>
                have h3 := clos_base hm (hCR j m hm (by omega) e2)
                rcases hrest with rfl | hrest
                · rw [h3] at h2; cases h2
                · rw [clos_trans hm (by rcases Nat.lt_or_ge m k with h | h; exact h; exfalso; obtain rfl : m = k := by omega
                                        rw [h3] at h2; cases h2) h3 hrest] at h2; cases h2
          rcases hR' with h5 | h5
          · exact fin A hA (fun a b h6 h7 h8 => by rw [hR a b h6 h7, h8]; rfl) h5
          · exact fin B hB (fun a b h6 h7 h8 => by rw [hR a b h6 h7, h8]; simp) h5
        rcases h with h | ⟨m, a, b, c, d⟩
        · exact step k hjk (Nat.le_refl _) h (.inl rfl)
        · rcases Nat.lt_trichotomy m j with h3 | h3 | h3
          · refine ih m h3 ?_ d
            cases e4 : clos R m j with
            | false => rfl
            | true => rw [clos_trans a h3 (clos_base a c) e4] at h1; cases h1
          · subst h3; rw [clos_base a c] at h1; cases h1
          · exact step m h3 (by omega) c (.inr (clos_of b d))
    exact key _ i hij h1 e
theorem bi_not {n : Nat} {E : Nat → Nat → Bool} (h : Bi n E) : Bi n (fun i j => !E i j) :=
  ⟨fun i j k a b c h1 h2 => by simp only [Bool.not_eq_true'] at *; exact h.no i j k a b c h1 h2, fun i j k a b c h1 h2 => by simp only [Bool.not_eq_false'] at *; exact h.yes i j k a b c h1 h2⟩

namespace Pm
variable {n : Nat}
/-- pairs that do not cross in one of two -/
def keepR (a b : Pm n) (i j : Nat) : Bool := !a.cr i j || !b.cr i j
theorem keep_bi (a b : Pm n) : Bi n (clos (keepR a b)) := clos_no (A := fun i j => !a.cr i j) (B := fun i j => !b.cr i j) (fun _ _ _ _ => rfl) (bi_not a.cr_bi) (bi_not b.cr_bi)
/-- the greatest common beginning -/
def meet (a b : Pm n) : Pm n := ofB n (fun i j => !clos (keepR a b) i j) (bi_not (keep_bi a b))
theorem meet_cross (a b : Pm n) {i j : Nat} (hij : i < j) (hj : j < n) : (meet a b).at' j < (meet a b).at' i ↔ clos (keepR a b) i j = false := by
  unfold meet
  rw [ofB_cross _ hij hj]; simp
theorem meet_le_left (a b : Pm n) : le (meet a b) a := by
  intro i j hij hj h
  rw [meet_cross a b hij hj] at h
  rcases Nat.lt_or_ge (a.at' j) (a.at' i) with h1 | h1
  · exact h1
  · rw [clos_base hij (by simp [keepR, cr]; omega)] at h; cases h
theorem meet_le_right (a b : Pm n) : le (meet a b) b := by
  intro i j hij hj h
  rw [meet_cross a b hij hj] at h
  rcases Nat.lt_or_ge (b.at' j) (b.at' i) with h1 | h1
  · exact h1
  · rw [clos_base hij (by simp [keepR, cr]; omega)] at h; cases h
theorem le_meet {a b t : Pm n} (h1 : le t a) (h2 : le t b) : le t (meet a b) := by
  intro i j hij hj h
  rw [meet_cross a b hij hj]
  cases e : clos (keepR a b) i j with
  | false => rfl
  | true =>
    exfalso
    have := clos_ind (n := n) (P := fun i j => ¬ t.at' j < t.at' i) (R := keepR a b) (by
      intro i j hij hj hr h3
      have := h1 i j hij hj h3
      have := h2 i j hij hj h3
      simp [keepR, cr] at hr; omega) (by intro i j k _ _ _ h3 h4; omega) hij hj e
    exact this h

/-- the theory of normal forms holds of the permutations of n things -/
def gar (n : Nat) : Gar (Pm n) where
  mul := mul
  one := one n
  inv := inv
  le := le
  top := top n
  M := fun s x => meet x (mul (inv s) (top n))
  assoc := assoc
  one_mul := one_mul
  mul_one := mul_one
  inv_mul := inv_mul
  mul_inv := mul_inv
  le_refl := le_refl
  le_trans := le_trans
  le_antisymm := le_antisymm
  one_le := one_le
  le_top := le_top
  shift := shift
  M_le := fun _ _ => meet_le_left _ _
  M_red := fun s x => by
    have h := meet_le_right x (mul (inv s) (top n))
    generalize meet x (mul (inv s) (top n)) = m at *
    have e1 : mul m (mul (inv m) (mul (inv s) (top n))) = mul (inv s) (top n) := by rw [← assoc, mul_inv, one_mul]
    have e2 : mul s (mul (inv s) (top n)) = top n := by rw [← assoc, mul_inv, one_mul]
    exact ((shift s m (mul (inv m) (mul (inv s) (top n)))).2 ⟨by rw [e1]; exact h, by rw [e1, e2]; exact le_top _⟩).1
  M_max := fun s x t h1 h2 => by
    refine le_meet h1 ?_
    have e1 : mul (mul s t) (mul (inv (mul s t)) (top n)) = top n := by rw [← assoc, mul_inv, one_mul]
    have h := ((shift s t (mul (inv (mul s t)) (top n))).1 ⟨h2, by rw [e1]; exact le_top _⟩).1
    have e2 : mul t (mul (inv (mul s t)) (top n)) = mul (inv s) (top n) := by
      have : mul s (mul t (mul (inv (mul s t)) (top n))) = top n := by rw [← assoc, e1]
      have h3 := congrArg (mul (inv s)) this
      rwa [← assoc, inv_mul, one_mul] at h3
    rw [e2] at h; exact h
  top_top := top_top
end Pm

end Go.Proofs.Ytmeccemnmkobbaa
