/- The permutations of n things as a group with the order of beginnings. Plain. -/
import Derived.Test.YtmeccemnmkobbaaPer
import Derived.Test.YtmeccemnmkobbaaGar
namespace Go.Proofs.Ytmeccemnmkobbaa

/-- an injection of 0 .. n-1 into itself meets everything -/
theorem surj_of_inj (n : Nat) : ∀ f : Nat → Nat, (∀ i, i < n → f i < n) → (∀ i j, i < n → j < n → f i = f j → i = j) → ∀ j, j < n → ∃ i, i < n ∧ f i = j := by
  induction n with
  | zero => intro f _ _ j hj; omega
  | succ n ih =>
    intro f hr hi j hj
    by_cases hv : j = f n
    · exact ⟨n, by omega, hv.symm⟩
    have hf' := ih (fun i => if f i = n then f n else f i) (by
      intro i hlt
      have h1 := hr i (by omega)
      have h2 := hr n (by omega)
      show (if f i = n then f n else f i) < n
      split
      · rename_i e
        have : f n ≠ n := by intro e2; have := hi i n (by omega) (by omega) (by omega); omega
        omega
      · omega) (by
      intro a b ha hb e
      have h3 : ∀ c, c < n → f c ≠ f n := fun c hc e => by have := hi c n (by omega) (by omega) e; omega
      split at e <;> split at e
      · rename_i e1 e2; exact hi a b (by omega) (by omega) (by omega)
      · exact absurd e.symm (h3 b hb)
      · exact absurd e (h3 a ha)
      · exact hi a b (by omega) (by omega) e)
    by_cases hjn : j = n
    · have hfn : f n < n := by have := hr n (by omega); omega
      obtain ⟨i, hin, e⟩ := hf' (f n) hfn
      split at e
      · rename_i e1; exact ⟨i, by omega, by omega⟩
      · have := hi i n (by omega) (by omega) e; omega
    · obtain ⟨i, hin, e⟩ := hf' j (by omega)
      split at e
      · omega
      · exact ⟨i, by omega, e⟩

/-- the permutations of n things -/
def Pm (n : Nat) : Type := { l : List Int // l.length = n ∧ IsPerm l }
instance (n : Nat) : DecidableEq (Pm n) := inferInstanceAs (DecidableEq { l : List Int // l.length = n ∧ IsPerm l })

namespace Pm
variable {n : Nat}
def at' (p : Pm n) (i : Nat) : Nat := (nth p.1 i).toNat
theorem nth_at (p : Pm n) {i : Nat} (h : i < n) : nth p.1 i = (p.at' i : Int) := by
  have := p.2.2.lo (i := i) (by rw [p.2.1]; exact h)
  unfold at'; omega
theorem lt (p : Pm n) {i : Nat} (h : i < n) : p.at' i < n := by
  have h1 := p.2.2.hi (i := i) (by rw [p.2.1]; exact h)
  have := p.nth_at h
  rw [p.2.1] at h1; omega
theorem inj (p : Pm n) {i j : Nat} (hi : i < n) (hj : j < n) (e : p.at' i = p.at' j) : i = j := by
  rcases Nat.decEq i j with hne | h
  · exfalso
    apply p.2.2.ne (i := i) (j := j) (by rw [p.2.1]; exact hi) (by rw [p.2.1]; exact hj) hne
    rw [p.nth_at hi, p.nth_at hj, e]
  · exact h
theorem surj (p : Pm n) {j : Nat} (hj : j < n) : ∃ i, i < n ∧ p.at' i = j := surj_of_inj n p.at' (fun _ h => p.lt h) (fun _ _ h1 h2 e => p.inj h1 h2 e) j hj
theorem ext {p q : Pm n} (h : ∀ i, i < n → p.at' i = q.at' i) : p = q := by
  apply Subtype.ext
  apply ext_nth (by rw [p.2.1, q.2.1])
  intro j hj
  rw [p.2.1] at hj
  rw [p.nth_at hj, q.nth_at hj, h j hj]
/-- a permutation by its function -/
def ofFn (n : Nat) (f : Nat → Nat) (hr : ∀ i, i < n → f i < n) (hi : ∀ i j, i < n → j < n → f i = f j → i = j) : Pm n :=
  ⟨(List.range n).map fun i => (f i : Int), by simp, by
    intro i h
    simp at h
    have e : ∀ k, k < n → nth ((List.range n).map fun i => (f i : Int)) k = (f k : Int) := by intro k hk; simp [nth, hk]
    rw [e i h]
    refine ⟨by omega, by have := hr i h; simp; omega, ?_⟩
    intro j hj e2
    rw [e j (by omega)] at e2
    have := hi j i (by omega) h (by omega); omega⟩
theorem at_ofFn {f : Nat → Nat} {hr : ∀ i, i < n → f i < n} {hi : ∀ i j, i < n → j < n → f i = f j → i = j} {i : Nat} (h : i < n) : (ofFn n f hr hi).at' i = f i := by
  simp [at', ofFn, nth, h]
def mul (p q : Pm n) : Pm n := ofFn n (fun i => q.at' (p.at' i)) (fun _ h => q.lt (p.lt h)) (fun _ _ h1 h2 e => p.inj h1 h2 (q.inj (p.lt h1) (p.lt h2) e))
theorem at_mul (p q : Pm n) {i : Nat} (h : i < n) : (mul p q).at' i = q.at' (p.at' i) := at_ofFn h
def one (n : Nat) : Pm n := ofFn n id (fun _ h => h) (fun _ _ _ _ e => e)
theorem at_one {i : Nat} (h : i < n) : (one n).at' i = i := at_ofFn h
def top (n : Nat) : Pm n := ofFn n (fun i => n - 1 - i) (fun _ h => by omega) (fun _ _ _ _ e => by omega)
theorem at_top {i : Nat} (h : i < n) : (top n).at' i = n - 1 - i := at_ofFn h
def find (p : Pm n) (j : Nat) : Nat := ((List.range n).find? fun i => p.at' i == j).getD 0
theorem find_spec (p : Pm n) {j : Nat} (hj : j < n) : p.find j < n ∧ p.at' (p.find j) = j := by
  unfold find
  cases e : (List.range n).find? fun i => p.at' i == j with
  | none =>
    obtain ⟨i, hi, ei⟩ := p.surj hj
    rw [List.find?_eq_none] at e
    exact absurd (by simpa using ei) (e i (by simpa using hi))
  | some i =>
    have h1 := List.find?_some e
    have h2 := List.mem_of_find?_eq_some e
    exact ⟨by simpa using h2, by simpa using h1⟩
theorem find_at (p : Pm n) {i : Nat} (h : i < n) : p.find (p.at' i) = i := p.inj (p.find_spec (p.lt h)).1 h (p.find_spec (p.lt h)).2
def inv (p : Pm n) : Pm n := ofFn n p.find (fun _ h => (p.find_spec h).1) (fun i j hi hj e => by rw [← (p.find_spec hi).2, ← (p.find_spec hj).2, e])
theorem at_inv (p : Pm n) {j : Nat} (h : j < n) : p.inv.at' j = p.find j := at_ofFn h
theorem inv_mul (p : Pm n) : mul p.inv p = one n := ext fun i h => by rw [at_mul _ _ h, at_inv _ h, at_one h, (p.find_spec h).2]
theorem mul_inv (p : Pm n) : mul p p.inv = one n := ext fun i h => by rw [at_mul _ _ h, at_inv _ (p.lt h), at_one h, p.find_at h]
theorem assoc (a b c : Pm n) : mul (mul a b) c = mul a (mul b c) := ext fun i h => by rw [at_mul _ _ h, at_mul _ _ h, at_mul _ _ h, at_mul _ _ (a.lt h)]
theorem one_mul (a : Pm n) : mul (one n) a = a := ext fun i h => by rw [at_mul _ _ h, at_one h]
theorem mul_one (a : Pm n) : mul a (one n) = a := ext fun i h => by rw [at_mul _ _ h, at_one (a.lt h)]
theorem top_top : mul (top n) (top n) = one n := ext fun i h => by rw [at_mul _ _ h, at_top h, at_top (by omega), at_one h]; omega

/-- s is a beginning of p: what crosses in s crosses in p -/
def le (s p : Pm n) : Prop := ∀ i j, i < j → j < n → s.at' j < s.at' i → p.at' j < p.at' i
theorem le_refl (a : Pm n) : le a a := fun _ _ _ _ h => h
theorem le_trans (a b c : Pm n) (h1 : le a b) (h2 : le b c) : le a c := fun i j hi hj h => h2 i j hi hj (h1 i j hi hj h)
theorem one_le (a : Pm n) : le (one n) a := fun i j hi hj h => by rw [at_one hj, at_one (by omega)] at h; omega
theorem le_top (a : Pm n) : le a (top n) := fun i j hi hj _ => by rw [at_top hj, at_top (by omega)]; omega
/-- how many things come to a place below v -/
theorem cnt_below (p : Pm n) (v : Nat) (hv : v ≤ n) : cnt (fun j => decide (p.at' j < v)) n = v := by
  induction v with
  | zero => rw [cnt_congr (g := fun _ => false) (by intro i _; simp), cnt_false]; rfl
  | succ v ih =>
    obtain ⟨i0, h0, e0⟩ := p.surj (show v < n by omega)
    have h1 : ∀ k, k ≤ n → cnt (fun j => decide (p.at' j < v + 1)) k = cnt (fun j => decide (p.at' j < v)) k + (if i0 < k then 1 else 0) := by
      intro k hk
      induction k with
      | zero => simp [cnt]
      | succ k ihk =>
        rw [cnt_succ, cnt_succ, ihk (by omega)]
        by_cases e : k = i0
        · subst e; simp [e0]
        · have hne : p.at' k ≠ v := fun e2 => e (p.inj (by omega) h0 (by rw [e2, e0]))
          have e3 : decide (p.at' k < v + 1) = decide (p.at' k < v) := by
            rw [decide_eq_decide]; omega
          rw [e3]
          generalize (if decide (p.at' k < v) = true then (1 : Int) else 0) = z
          by_cases e4 : i0 < k
          · rw [if_pos e4, if_pos (by omega)]; omega
          · rw [if_neg e4, if_neg (by omega)]; omega
    rw [h1 n (Nat.le_refl _), ih (by omega), if_pos h0]; omega
theorem le_antisymm (a b : Pm n) (h1 : le a b) (h2 : le b a) : a = b := by
  apply ext
  intro i hi
  have key : ∀ j, j < n → (a.at' j < a.at' i ↔ b.at' j < b.at' i) := by
    intro j hj
    rcases Nat.lt_trichotomy i j with h | h | h
    · exact ⟨h1 i j h hj, h2 i j h hj⟩
    · subst h; omega
    · have n1 : a.at' i ≠ a.at' j := fun e => by have := a.inj hi hj e; omega
      have n2 : b.at' i ≠ b.at' j := fun e => by have := b.inj hi hj e; omega
      have q1 := h1 j i h hi
      have q2 := h2 j i h hi
      constructor
      · intro h3
        rcases Nat.lt_or_ge (b.at' j) (b.at' i) with h4 | h4
        · exact h4
        · have := q2 (by omega); omega
      · intro h3
        rcases Nat.lt_or_ge (a.at' j) (a.at' i) with h4 | h4
        · exact h4
        · have := q1 (by omega); omega
  have e1 := a.cnt_below (a.at' i) (Nat.le_of_lt (a.lt hi))
  have e2 := b.cnt_below (b.at' i) (Nat.le_of_lt (b.lt hi))
  rw [cnt_congr (g := fun j => decide (b.at' j < b.at' i)) (by intro j hj; rw [decide_eq_decide]; exact key j hj)] at e1
  omega

theorem shift (s t u : Pm n) : (le s (mul s t) ∧ le (mul s t) (mul (mul s t) u)) ↔ (le t (mul t u) ∧ le s (mul s (mul t u))) := by
  constructor
  · rintro ⟨h1, h2⟩
    refine ⟨?_, ?_⟩
    · intro a b hab hb h
      obtain ⟨i, hi, rfl⟩ := s.surj (show a < n by omega)
      obtain ⟨j, hj, rfl⟩ := s.surj hb
      rw [at_mul _ _ (s.lt hi), at_mul _ _ (s.lt hj)]
      rcases Nat.lt_trichotomy i j with h3 | h3 | h3
      · have := h2 i j h3 hj (by rw [at_mul _ _ hi, at_mul _ _ hj]; exact h)
        rw [at_mul _ _ hi, at_mul _ _ hj, at_mul _ _ hi, at_mul _ _ hj] at this
        exact this
      · subst h3; omega
      · have := h1 j i h3 hi hab
        rw [at_mul _ _ hi, at_mul _ _ hj] at this; omega
    · intro i j hij hj h
      have h3 := h2 i j hij hj (h1 i j hij hj h)
      rw [assoc] at h3; exact h3
  · rintro ⟨h1, h2⟩
    refine ⟨?_, ?_⟩
    · intro i j hij hj h
      have hi : i < n := by omega
      rw [at_mul _ _ hi, at_mul _ _ hj]
      rcases Nat.lt_or_ge (t.at' (s.at' j)) (t.at' (s.at' i)) with h3 | h3
      · exact h3
      · exfalso
        have hne : t.at' (s.at' j) ≠ t.at' (s.at' i) := fun e => by have := s.inj hj hi (t.inj (s.lt hj) (s.lt hi) e); omega
        have h4 := h1 _ _ h (s.lt hi) (by omega)
        have h5 := h2 i j hij hj h
        rw [at_mul _ _ (s.lt hi), at_mul _ _ (s.lt hj)] at h4
        rw [at_mul _ _ hi, at_mul _ _ hj, at_mul _ _ (s.lt hi), at_mul _ _ (s.lt hj)] at h5
        omega
    · intro i j hij hj h
      have hi : i < n := by omega
      rw [at_mul _ _ hi, at_mul _ _ hj] at h
      rw [at_mul _ _ hi, at_mul _ _ hj, at_mul _ _ hi, at_mul _ _ hj]
      rcases Nat.lt_trichotomy (s.at' i) (s.at' j) with h3 | h3 | h3
      · have := h1 _ _ h3 (s.lt hj) h
        rw [at_mul _ _ (s.lt hi), at_mul _ _ (s.lt hj)] at this; exact this
      · have := s.inj hi hj h3; omega
      · have := h2 i j hij hj h3
        rw [at_mul _ _ hi, at_mul _ _ hj, at_mul _ _ (s.lt hi), at_mul _ _ (s.lt hj)] at this; exact this
end Pm

end Go.Proofs.Ytmeccemnmkobbaa
