/- Lists of simple elements as words: what may be exchanged in them, powers of the half twist in front, letters behind. The plain theory of Garside, second part; no program is looked at. -/
import Derived.Test.YtkgdbobhppmaiaaDoorRows
import Derived.Test.YtkgdbobhppmaiaaDoorPer
namespace Go.Proofs.YtkgdbobhppmaiaaDoor

/-- what the theory needs of the permutations of n things: le s p says that s is a beginning of p -/
structure Gar (G : Type) where
  mul : G → G → G
  one : G
  inv : G → G
  le : G → G → Prop
  top : G
  M : G → G → G
  assoc : ∀ a b c, mul (mul a b) c = mul a (mul b c)
  one_mul : ∀ a, mul one a = a
  mul_one : ∀ a, mul a one = a
  inv_mul : ∀ a, mul (inv a) a = one
  mul_inv : ∀ a, mul a (inv a) = one
  le_refl : ∀ a, le a a
  le_trans : ∀ a b c, le a b → le b c → le a c
  le_antisymm : ∀ a b, le a b → le b a → a = b
  one_le : ∀ a, le one a
  le_top : ∀ a, le a top
  shift : ∀ s t u, (le s (mul s t) ∧ le (mul s t) (mul (mul s t) u)) ↔ (le t (mul t u) ∧ le s (mul s (mul t u)))
  M_le : ∀ s x, le (M s x) x
  M_red : ∀ s x, le s (mul s (M s x))
  M_max : ∀ s x t, le t x → le s (mul s t) → le t (M s x)
  top_top : mul top top = one

set_option linter.unusedSectionVars false
namespace Gar
variable {G : Type} [DecidableEq G] (g : Gar G)

def red (s t : G) : Prop := g.le s (g.mul s t)
/-- the greatest simple beginning of s x -/
def hd (s x : G) : G := g.mul s (g.M s x)
/-- what is left of x -/
def rm (s x : G) : G := g.mul (g.inv (g.M s x)) x

theorem cancel (a b : G) : g.mul (g.inv a) (g.mul a b) = b := by rw [← g.assoc, g.inv_mul, g.one_mul]
theorem cancel' (a b : G) : g.mul a (g.mul (g.inv a) b) = b := by rw [← g.assoc, g.mul_inv, g.one_mul]
theorem mul_left {a b c : G} (h : g.mul a b = g.mul a c) : b = c := by
  have := congrArg (g.mul (g.inv a)) h
  rwa [g.cancel, g.cancel] at this
theorem le_one {a : G} (h : g.le a g.one) : a = g.one := g.le_antisymm _ _ h (g.one_le a)
theorem red_one (s : G) : g.red s g.one := by unfold red; rw [g.mul_one]; exact g.le_refl s
theorem one_red (t : G) : g.red g.one t := by unfold red; exact g.one_le _

theorem M_rm (s x : G) : g.mul (g.M s x) (g.rm s x) = x := g.cancel' _ _
theorem red_M (s x : G) : g.red s (g.M s x) := g.M_red s x
theorem red_M_rm (s x : G) : g.red (g.M s x) (g.rm s x) := by unfold red; rw [g.M_rm]; exact g.M_le s x

/-- quotients on the left -/
theorem quot {a b x : G} (h1 : g.le a b) (h2 : g.le b x) : g.le (g.mul (g.inv a) b) (g.mul (g.inv a) x) := by
  have h := (g.shift a (g.mul (g.inv a) b) (g.mul (g.inv b) x)).1 ⟨by rw [g.cancel']; exact h1, by rw [g.cancel', g.cancel']; exact h2⟩
  have e : g.mul (g.mul (g.inv a) b) (g.mul (g.inv b) x) = g.mul (g.inv a) x := by rw [g.assoc, g.cancel']
  rw [e] at h; exact h.1
/-- products on the left -/
theorem prod {a b x : G} (h1 : g.le b x) (h2 : g.red a x) : g.red a b ∧ g.le (g.mul a b) (g.mul a x) := by
  have h := (g.shift a b (g.mul (g.inv b) x)).2 ⟨by rw [g.cancel']; exact h1, by rw [g.cancel']; exact h2⟩
  rw [g.assoc, g.cancel'] at h
  exact ⟨h.1, h.2⟩

theorem key {s s' : G} (h : g.red s s') (x : G) : g.M s (g.mul s' (g.M s' x)) = g.mul s' (g.M (g.mul s s') x) := by
  -- m ≤ m'
  have hss : g.red (g.mul s s') (g.M (g.mul s s') x) := g.red_M _ _
  have hsh := (g.shift s s' (g.M (g.mul s s') x)).1 ⟨h, hss⟩
  have hm : g.le (g.M (g.mul s s') x) (g.M s' x) := g.M_max _ _ _ (g.M_le _ _) hsh.1
  apply g.le_antisymm
  · have hN : g.le s' (g.M s (g.mul s' (g.M s' x))) := g.M_max _ _ _ (g.red_M s' x) h
    have hNle := g.M_le s (g.mul s' (g.M s' x))
    have hNred := g.red_M s (g.mul s' (g.M s' x))
    generalize g.M s (g.mul s' (g.M s' x)) = N at *
    have hu := g.quot hN hNle
    rw [g.cancel] at hu
    have eN : N = g.mul s' (g.mul (g.inv s') N) := (g.cancel' s' N).symm
    generalize g.mul (g.inv s') N = u at *
    subst eN
    have hux : g.le u x := g.le_trans _ _ _ hu (g.M_le _ _)
    have h2 := (g.shift s s' u).2 ⟨hN, hNred⟩
    have hum : g.le u (g.M (g.mul s s') x) := g.M_max _ _ _ hux h2.2
    exact (g.prod hum hsh.1).2
  · exact g.M_max _ _ _ (g.prod hm (g.red_M s' x)).2 hsh.2

theorem hd_hd {s s' : G} (h : g.red s s') (x : G) : g.hd s (g.hd s' x) = g.hd (g.mul s s') x := by
  unfold hd; rw [g.key h, g.assoc]

theorem M_self {s s' : G} (h : g.red s s') : g.M s s' = s' := g.le_antisymm _ _ (g.M_le _ _) (g.M_max _ _ _ (g.le_refl _) h)
theorem M_one_left (x : G) : g.M g.one x = x := g.M_self (g.one_red x)

/-- s in front of a list of simple elements -/
def mult : G → List G → List G
  | s, [] => if s = g.one then [] else [s]
  | s, x :: L => g.hd s x :: mult (g.rm s x) L

theorem mult_one (L : List G) : g.mult g.one L = L := by
  induction L with
  | nil => simp [mult]
  | cons x L ih =>
    have h1 : g.hd g.one x = x := by unfold hd; rw [g.M_one_left, g.one_mul]
    have h2 : g.rm g.one x = g.one := by unfold rm; rw [g.M_one_left, g.inv_mul]
    rw [mult, h1, h2, ih]

theorem mult_mult {s s' : G} (h : g.red s s') (L : List G) : g.mult s (g.mult s' L) = g.mult (g.mul s s') L := by
  induction L generalizing s s' with
  | nil =>
    by_cases e : s' = g.one
    · subst e; simp [mult, g.mul_one]
    · have h1 : g.hd s s' = g.mul s s' := by unfold hd; rw [g.M_self h]
      have h2 : g.rm s s' = g.one := by unfold rm; rw [g.M_self h, g.inv_mul]
      have h3 : g.mul s s' ≠ g.one := by
        intro e1
        have hs : s = g.one := g.le_one (by unfold red at h; rw [e1] at h; exact h)
        rw [hs, g.one_mul] at e1; exact e e1
      simp [mult, e, h1, h2, h3]
  | cons x L ih =>
    have hmm : g.le (g.M (g.mul s s') x) (g.M s' x) := by
      have hsh := (g.shift s s' (g.M (g.mul s s') x)).1 ⟨h, g.red_M _ _⟩
      exact g.M_max _ _ _ (g.M_le _ _) hsh.1
    have e1 : g.rm s (g.hd s' x) = g.mul (g.inv (g.M (g.mul s s') x)) (g.M s' x) := by
      unfold rm hd
      rw [g.key h]
      apply g.mul_left (a := g.mul s' (g.M (g.mul s s') x))
      rw [g.cancel', g.assoc, g.cancel']
    have e2 : g.mul (g.rm s (g.hd s' x)) (g.rm s' x) = g.rm (g.mul s s') x := by
      rw [e1]; unfold rm
      rw [g.assoc, g.cancel']
    have e3 : g.red (g.rm s (g.hd s' x)) (g.rm s' x) := by
      unfold red
      rw [e2, e1]
      exact g.quot hmm (g.M_le _ _)
    rw [mult, mult, mult, g.hd_hd h, ih e3, e2]

/-- every element has passed all letters that it can to the one before it -/
def Stab : List G → Prop
  | [] => True
  | x :: L => x ≠ g.one ∧ g.mult x L = x :: L ∧ Stab L

theorem hd_ne {s x : G} (hx : x ≠ g.one) : g.hd s x ≠ g.one := by
  intro e
  have hs : s = g.one := g.le_one (by have := g.red_M s x; unfold red at this; unfold hd at e; rw [e] at this; exact this)
  subst hs
  unfold hd at e; rw [g.M_one_left, g.one_mul] at e; exact hx e

theorem mult_stab (s : G) (L : List G) (h : g.Stab L) : g.Stab (g.mult s L) := by
  induction L generalizing s with
  | nil =>
    by_cases e : s = g.one
    · simp [mult, e, Stab]
    · simp [mult, e, Stab]
  | cons x L ih =>
    obtain ⟨hx, hxL, hL⟩ := h
    refine ⟨g.hd_ne hx, ?_, ih _ hL⟩
    have e : g.hd s x = g.mul s (g.M s x) := rfl
    rw [e, ← g.mult_mult (g.red_M s x), g.mult_mult (g.red_M_rm s x), g.M_rm, hxL]
    rfl

/-- the normal form of a list of simple elements -/
def nf (w : List G) : List G := w.foldr g.mult []
theorem nf_stab (w : List G) : g.Stab (g.nf w) := by
  induction w with
  | nil => trivial
  | cons s w ih => exact g.mult_stab s _ ih
theorem nf_of_stab {L : List G} (h : g.Stab L) : g.nf L = L := by
  induction L with
  | nil => rfl
  | cons x L ih => show g.mult x (g.nf L) = _; rw [ih h.2.2, h.2.1]
/-- neighbours are left-weighted -/
def Lw : List G → Prop
  | [] => True
  | [x] => x ≠ g.one
  | x :: y :: L => x ≠ g.one ∧ g.M x y = g.one ∧ Lw (y :: L)
theorem stab_of_lw : ∀ {L : List G}, g.Lw L → g.Stab L
  | [], _ => trivial
  | [x], h => ⟨h, by simp [mult, show x ≠ g.one from h], trivial⟩
  | x :: y :: L, ⟨hx, hM, h⟩ => by
    have ih := stab_of_lw h
    refine ⟨hx, ?_, ih⟩
    have h1 : g.hd x y = x := by unfold hd; rw [hM, g.mul_one]
    have h2 : g.rm x y = y := by
      unfold rm; rw [hM]
      apply g.mul_left (a := g.one)
      rw [g.cancel', g.one_mul]
    rw [mult, h1, h2, ih.2.1]

/-! the half twist -/
theorem M_top (x : G) : g.M g.top x = g.one := by
  have h := g.red_M g.top x
  have e : g.mul g.top (g.M g.top x) = g.top := g.le_antisymm _ _ (g.le_top _) h
  exact g.mul_left (a := g.top) (by rw [e, g.mul_one])
theorem hd_top (x : G) : g.hd g.top x = g.top := by unfold hd; rw [g.M_top, g.mul_one]
theorem rm_top (x : G) : g.rm g.top x = x := by
  unfold rm; rw [g.M_top]
  apply g.mul_left (a := g.one); rw [g.cancel', g.one_mul]
theorem mult_top {L : List G} (h : g.Stab L) (hne : g.top ≠ g.one) : g.mult g.top L = g.top :: L := by
  cases L with
  | nil => simp [mult, hne]
  | cons x L => rw [mult, g.hd_top, g.rm_top, h.2.1]
/-- seen from the other side -/
def tau (x : G) : G := g.mul g.top (g.mul x g.top)
theorem tau_tau (x : G) : g.tau (g.tau x) = x := by
  unfold tau
  rw [g.assoc, g.assoc, g.top_top, g.mul_one, ← g.assoc, g.top_top, g.one_mul]
theorem tau_mul (x y : G) : g.tau (g.mul x y) = g.mul (g.tau x) (g.tau y) := by
  unfold tau
  rw [g.assoc g.top, g.assoc x g.top, ← g.assoc g.top g.top, g.top_top, g.one_mul, g.assoc]
theorem tau_top : g.tau g.top = g.top := by unfold tau; rw [g.top_top, g.mul_one]
theorem tau_one : g.tau g.one = g.one := by unfold tau; rw [g.one_mul, g.top_top]
theorem top_inv : g.inv g.top = g.top := g.mul_left (a := g.top) (by rw [g.mul_inv, g.top_top])
theorem hd_at_top (s : G) : g.hd s g.top = g.top := by
  apply g.le_antisymm _ _ (g.le_top _)
  have h1 : g.red s (g.mul (g.inv s) g.top) := by unfold red; rw [g.cancel']; exact g.le_top s
  have h2 := g.M_max s g.top _ (g.le_top _) h1
  have h3 := (g.prod h2 (g.red_M s g.top)).2
  rw [g.cancel'] at h3
  exact h3
theorem rm_at_top (s : G) : g.rm s g.top = g.tau s := by
  have h := g.hd_at_top s
  unfold hd at h
  unfold rm tau
  have e : g.M s g.top = g.mul (g.inv s) g.top := g.mul_left (a := s) (by rw [h, g.cancel'])
  rw [e]
  apply g.mul_left (a := g.mul (g.inv s) g.top)
  rw [g.cancel', g.assoc, ← g.assoc g.top g.top, g.top_top, g.one_mul, g.cancel]
theorem mult_at_top (s : G) (L : List G) : g.mult s (g.top :: L) = g.top :: g.mult (g.tau s) L := by
  rw [mult, g.hd_at_top, g.rm_at_top]

/-! powers of the half twist in front -/
/-- seen from the other side as often as p says -/
def tw (p : Int) (x : G) : G := if p % 2 = 0 then x else g.tau x
theorem tw_tw (p q : Int) (x : G) : g.tw p (g.tw q x) = g.tw (p + q) x := by
  unfold tw
  by_cases h1 : p % 2 = 0 <;> by_cases h2 : q % 2 = 0
  · rw [if_pos h1, if_pos h2, if_pos (by omega)]
  · rw [if_pos h1, if_neg h2, if_neg (by omega)]
  · rw [if_neg h1, if_pos h2, if_neg (by omega)]
  · rw [if_neg h1, if_neg h2, if_pos (by omega), g.tau_tau]
theorem tw_one_arg (x : G) : g.tw 1 x = g.tau x := by unfold tw; rw [if_neg (by decide)]
theorem tw_mul (p : Int) (x y : G) : g.tw p (g.mul x y) = g.mul (g.tw p x) (g.tw p y) := by
  unfold tw; split
  · rfl
  · exact g.tau_mul x y
theorem tw_top (p : Int) : g.tw p g.top = g.top := by unfold tw; split; rfl; exact g.tau_top

/-- a state: a power of the half twist and a list behind it -/
abbrev St (G : Type) := Int × List G
/-- a simple element in front -/
def act (s : G) (x : St G) : St G := (x.1, g.mult (g.tw x.1 s) x.2)
/-- a power of the half twist in front -/
def up (k : Int) (x : St G) : St G := (x.1 + k, x.2)
/-- half twists at the beginning of the list are taken to the power -/
def normL : List G → Int → St G
  | [], p => (p, [])
  | x :: L, p => if x = g.top then normL L (p + 1) else (p, x :: L)
def norm (x : St G) : St G := g.normL x.2 x.1
theorem norm_nil (p : Int) : g.norm (p, []) = (p, []) := rfl
theorem norm_top (p : Int) (L : List G) : g.norm (p, g.top :: L) = g.norm (p + 1, L) := by
  show (if g.top = g.top then _ else _) = _
  rw [if_pos rfl]; rfl
theorem norm_cons {x : G} (h : x ≠ g.top) (p : Int) (L : List G) : g.norm (p, x :: L) = (p, x :: L) := by
  show (if x = g.top then _ else _) = _
  rw [if_neg h]
theorem norm_up (k : Int) (p : Int) (L : List G) : g.norm (up k (p, L)) = up k (g.norm (p, L)) := by
  induction L generalizing p with
  | nil => rfl
  | cons x L ih =>
    by_cases e : x = g.top
    · subst e
      have := ih (p + 1)
      simp only [up] at this ⊢
      rw [norm_top, norm_top, ← this]
      congr 2; omega
    · show g.norm (p + k, x :: L) = up k (g.norm (p, x :: L))
      rw [g.norm_cons e, g.norm_cons e]; rfl
/-- what is done in front does not ask whether the state is normed -/
theorem norm_act (s : G) (p : Int) (L : List G) : g.norm (g.act s (g.norm (p, L))) = g.norm (g.act s (p, L)) := by
  induction L generalizing p with
  | nil => rfl
  | cons x L ih =>
    by_cases e : x = g.top
    · subst e
      rw [norm_top, ih (p + 1)]
      unfold act
      simp only
      rw [g.mult_at_top, norm_top]
      congr 3
      rw [← g.tw_one_arg, g.tw_tw]; congr 1; omega
    · rw [g.norm_cons e]
theorem norm_norm (x : St G) : g.norm (g.norm x) = g.norm x := by
  obtain ⟨p, L⟩ := x
  induction L generalizing p with
  | nil => rfl
  | cons x L ih =>
    by_cases e : x = g.top
    · subst e; rw [norm_top, ih]
    · rw [g.norm_cons e, g.norm_cons e]
theorem norm_of_ne {p : Int} {L : List G} (h : L.head? ≠ some g.top) : g.norm (p, L) = (p, L) := by
  cases L with
  | nil => rfl
  | cons x L => simp only [List.head?_cons, ne_eq, Option.some.injEq] at h; exact g.norm_cons h p L
theorem norm_stab {p : Int} {L : List G} (h : g.Stab L) : g.Stab (g.norm (p, L)).2 := by
  induction L generalizing p with
  | nil => trivial
  | cons x L ih =>
    by_cases e : x = g.top
    · subst e; rw [norm_top]; exact ih h.2.2
    · rw [g.norm_cons e]; exact h

end Gar
end Go.Proofs.YtkgdbobhppmaiaaDoor

namespace Go.Proofs.YtkgdbobhppmaiaaDoor

/-- an injection of 0 .. n-1 into itself meets everything -/
theorem surj_of_inj (n : Nat) : ∀ f : Nat → Nat, (∀ i, i < n → f i < n) → (∀ i j, i < n → j < n → f i = f j → i = j) → ∀ j, j < n → ∃ i, i < n ∧ f i = j := by
  induction n with
  | zero => intro f _ _ j hj; omega
  | succ n ih =>
    intro f hr hi j hj
    by_cases hv : j = f n
    · exact ⟨n, by omega, hv.symm⟩
    have hf' := ih (fun i => if f i = n then f n else f i) (by
      intro i hlt
      have h1 := hr i (by omega)
      have h2 := hr n (by omega)
      show (if f i = n then f n else f i) < n
      split
      · rename_i e
        have : f n ≠ n := by intro e2; have := hi i n (by omega) (by omega) (by omega); omega
        omega
      · omega) (by
      intro a b ha hb e
      have h3 : ∀ c, c < n → f c ≠ f n := fun c hc e => by have := hi c n (by omega) (by omega) e; omega
      split at e <;> split at e
      · rename_i e1 e2; exact hi a b (by omega) (by omega) (by omega)
      · exact absurd e.symm (h3 b hb)
      · exact absurd e (h3 a ha)
      · exact hi a b (by omega) (by omega) e)
    by_cases hjn : j = n
    · have hfn : f n < n := by have := hr n (by omega); omega
      obtain ⟨i, hin, e⟩ := hf' (f n) hfn
      split at e
      · rename_i e1; exact ⟨i, by omega, by omega⟩
      · have := hi i n (by omega) (by omega) e; omega
    · obtain ⟨i, hin, e⟩ := hf' j (by omega)
      split at e
      · omega
      · exact ⟨i, by omega, e⟩

/-- the permutations of n things -/
def Pm (n : Nat) : Type := { l : List Int // l.length = n ∧ IsPerm l }
instance (n : Nat) : DecidableEq (Pm n) := inferInstanceAs (DecidableEq { l : List Int // l.length = n ∧ IsPerm l })

namespace Pm
variable {n : Nat}
def at' (p : Pm n) (i : Nat) : Nat := (nth p.1 i).toNat
theorem nth_at (p : Pm n) {i : Nat} (h : i < n) : nth p.1 i = (p.at' i : Int) := by
  have := p.2.2.lo (i := i) (by rw [p.2.1]; exact h)
  unfold at'; omega
theorem lt (p : Pm n) {i : Nat} (h : i < n) : p.at' i < n := by
  have h1 := p.2.2.hi (i := i) (by rw [p.2.1]; exact h)
  have := p.nth_at h
  rw [p.2.1] at h1; omega
theorem inj (p : Pm n) {i j : Nat} (hi : i < n) (hj : j < n) (e : p.at' i = p.at' j) : i = j := by
  rcases Nat.decEq i j with hne | h
  · exfalso
    apply p.2.2.ne (i := i) (j := j) (by rw [p.2.1]; exact hi) (by rw [p.2.1]; exact hj) hne
    rw [p.nth_at hi, p.nth_at hj, e]
  · exact h
theorem surj (p : Pm n) {j : Nat} (hj : j < n) : ∃ i, i < n ∧ p.at' i = j := surj_of_inj n p.at' (fun _ h => p.lt h) (fun _ _ h1 h2 e => p.inj h1 h2 e) j hj
theorem ext {p q : Pm n} (h : ∀ i, i < n → p.at' i = q.at' i) : p = q := by
  apply Subtype.ext
  apply ext_nth (by rw [p.2.1, q.2.1])
  intro j hj
  rw [p.2.1] at hj
  rw [p.nth_at hj, q.nth_at hj, h j hj]
/-- a permutation by its function -/
def ofFn (n : Nat) (f : Nat → Nat) (hr : ∀ i, i < n → f i < n) (hi : ∀ i j, i < n → j < n → f i = f j → i = j) : Pm n :=
  ⟨(List.range n).map fun i => (f i : Int), by simp, by
    intro i h
    simp at h
    have e : ∀ k, k < n → nth ((List.range n).map fun i => (f i : Int)) k = (f k : Int) := by intro k hk; simp [nth, hk]
    rw [e i h]
    refine ⟨by omega, by have := hr i h; simp; omega, ?_⟩
    intro j hj e2
    rw [e j (by omega)] at e2
    have := hi j i (by omega) h (by omega); omega⟩
theorem at_ofFn {f : Nat → Nat} {hr : ∀ i, i < n → f i < n} {hi : ∀ i j, i < n → j < n → f i = f j → i = j} {i : Nat} (h : i < n) : (ofFn n f hr hi).at' i = f i := by
  simp [at', ofFn, nth, h]
def mul (p q : Pm n) : Pm n := ofFn n (fun i => q.at' (p.at' i)) (fun _ h => q.lt (p.lt h)) (fun _ _ h1 h2 e => p.inj h1 h2 (q.inj (p.lt h1) (p.lt h2) e))
theorem at_mul (p q : Pm n) {i : Nat} (h : i < n) : (mul p q).at' i = q.at' (p.at' i) := at_ofFn h
def one (n : Nat) : Pm n := ofFn n id (fun _ h => h) (fun _ _ _ _ e => e)
theorem at_one {i : Nat} (h : i < n) : (one n).at' i = i := at_ofFn h
def top (n : Nat) : Pm n := ofFn n (fun i => n - 1 - i) (fun _ h => by omega) (fun _ _ _ _ e => by omega)
theorem at_top {i : Nat} (h : i < n) : (top n).at' i = n - 1 - i := at_ofFn h
def find (p : Pm n) (j : Nat) : Nat := ((List.range n).find? fun i => p.at' i == j).getD 0
theorem find_spec (p : Pm n) {j : Nat} (hj : j < n) : p.find j < n ∧ p.at' (p.find j) = j := by
  unfold find
  cases e : (List.range n).find? fun i => p.at' i == j with
  | none =>
    obtain ⟨i, hi, ei⟩ := p.surj hj
    rw [List.find?_eq_none] at e
    exact absurd (by simpa using ei) (e i (by simpa using hi))
  | some i =>
    have h1 := List.find?_some e
    have h2 := List.mem_of_find?_eq_some e
    exact ⟨by simpa using h2, by simpa using h1⟩
theorem find_at (p : Pm n) {i : Nat} (h : i < n) : p.find (p.at' i) = i := p.inj (p.find_spec (p.lt h)).1 h (p.find_spec (p.lt h)).2
def inv (p : Pm n) : Pm n := ofFn n p.find (fun _ h => (p.find_spec h).1) (fun i j hi hj e => by rw [← (p.find_spec hi).2, ← (p.find_spec hj).2, e])
theorem at_inv (p : Pm n) {j : Nat} (h : j < n) : p.inv.at' j = p.find j := at_ofFn h
theorem inv_mul (p : Pm n) : mul p.inv p = one n := ext fun i h => by rw [at_mul _ _ h, at_inv _ h, at_one h, (p.find_spec h).2]
theorem mul_inv (p : Pm n) : mul p p.inv = one n := ext fun i h => by rw [at_mul _ _ h, at_inv _ (p.lt h), at_one h, p.find_at h]
theorem assoc (a b c : Pm n) : mul (mul a b) c = mul a (mul b c) := ext fun i h => by rw [at_mul _ _ h, at_mul _ _ h, at_mul _ _ h, at_mul _ _ (a.lt h)]
theorem one_mul (a : Pm n) : mul (one n) a = a := ext fun i h => by rw [at_mul _ _ h, at_one h]
theorem mul_one (a : Pm n) : mul a (one n) = a := ext fun i h => by rw [at_mul _ _ h, at_one (a.lt h)]
theorem top_top : mul (top n) (top n) = one n := ext fun i h => by rw [at_mul _ _ h, at_top h, at_top (by omega), at_one h]; omega

/-- s is a beginning of p: what crosses in s crosses in p -/
def le (s p : Pm n) : Prop := ∀ i j, i < j → j < n → s.at' j < s.at' i → p.at' j < p.at' i
theorem le_refl (a : Pm n) : le a a := fun _ _ _ _ h => h
theorem le_trans (a b c : Pm n) (h1 : le a b) (h2 : le b c) : le a c := fun i j hi hj h => h2 i j hi hj (h1 i j hi hj h)
theorem one_le (a : Pm n) : le (one n) a := fun i j hi hj h => by rw [at_one hj, at_one (by omega)] at h; omega
theorem le_top (a : Pm n) : le a (top n) := fun i j hi hj _ => by rw [at_top hj, at_top (by omega)]; omega
/-- how many things come to a place below v -/
theorem cnt_below (p : Pm n) (v : Nat) (hv : v ≤ n) : cnt (fun j => decide (p.at' j < v)) n = v := by
  induction v with
  | zero => rw [cnt_congr (g := fun _ => false) (by intro i _; simp), cnt_false]; rfl
  | succ v ih =>
    obtain ⟨i0, h0, e0⟩ := p.surj (show v < n by omega)
    have h1 : ∀ k, k ≤ n → cnt (fun j => decide (p.at' j < v + 1)) k = cnt (fun j => decide (p.at' j < v)) k + (if i0 < k then 1 else 0) := by
      intro k hk
      induction k with
      | zero => simp [cnt]
      | succ k ihk =>
        rw [cnt_succ, cnt_succ, ihk (by omega)]
        by_cases e : k = i0
        · subst e; simp [e0]
        · have hne : p.at' k ≠ v := fun e2 => e (p.inj (by omega) h0 (by rw [e2, e0]))
          have e3 : decide (p.at' k < v + 1) = decide (p.at' k < v) := by
            rw [decide_eq_decide]; omega
          rw [e3]
          generalize (if decide (p.at' k < v) = true then (1 : Int) else 0) = z
          by_cases e4 : i0 < k
          · rw [if_pos e4, if_pos (by omega)]; omega
          · rw [if_neg e4, if_neg (by omega)]; omega
    rw [h1 n (Nat.le_refl _), ih (by omega), if_pos h0]; omega
theorem le_antisymm (a b : Pm n) (h1 : le a b) (h2 : le b a) : a = b := by
  apply ext
  intro i hi
  have key : ∀ j, j < n → (a.at' j < a.at' i ↔ b.at' j < b.at' i) := by
    intro j hj
    rcases Nat.lt_trichotomy i j with h | h | h
    · exact ⟨h1 i j h hj, h2 i j h hj⟩
    · subst h; omega
    · have n1 : a.at' i ≠ a.at' j := fun e => by have := a.inj hi hj e; omega
      have n2 : b.at' i ≠ b.at' j := fun e => by have := b.inj hi hj e; omega
      have q1 := h1 j i h hi
      have q2 := h2 j i h hi
      constructor
      · intro h3
        rcases Nat.lt_or_ge (b.at' j) (b.at' i) with h4 | h4
        · exact h4
        · have := q2 (by omega); omega
      · intro h3
        rcases Nat.lt_or_ge (a.at' j) (a.at' i) with h4 | h4
        · exact h4
        · have := q1 (by omega); omega
  have e1 := a.cnt_below (a.at' i) (Nat.le_of_lt (a.lt hi))
  have e2 := b.cnt_below (b.at' i) (Nat.le_of_lt (b.lt hi))
  rw [cnt_congr (g := fun j => decide (b.at' j < b.at' i)) (by intro j hj; rw [decide_eq_decide]; exact key j hj)] at e1
  omega

theorem shift (s t u : Pm n) : (le s (mul s t) ∧ le (mul s t) (mul (mul s t) u)) ↔ (le t (mul t u) ∧ le s (mul s (mul t u))) := by
  constructor
  · rintro ⟨h1, h2⟩
    refine ⟨?_, ?_⟩
    · intro a b hab hb h
      obtain ⟨i, hi, rfl⟩ := s.surj (show a < n by omega)
      obtain ⟨j, hj, rfl⟩ := s.surj hb
      rw [at_mul _ _ (s.lt hi), at_mul _ _ (s.lt hj)]
      rcases Nat.lt_trichotomy i j with h3 | h3 | h3
      · have := h2 i j h3 hj (by rw [at_mul _ _ hi, at_mul _ _ hj]; exact h)
        rw [at_mul _ _ hi, at_mul _ _ hj, at_mul _ _ hi, at_mul _ _ hj] at this
        exact this
      · subst h3; omega
      · have := h1 j i h3 hi hab
        rw [at_mul _ _ hi, at_mul _ _ hj] at this; omega
    · intro i j hij hj h
      have h3 := h2 i j hij hj (h1 i j hij hj h)
      rw [assoc] at h3; exact h3
  · rintro ⟨h1, h2⟩
    refine ⟨?_, ?_⟩
    · intro i j hij hj h
      have hi : i < n := by omega
      rw [at_mul _ _ hi, at_mul _ _ hj]
      rcases Nat.lt_or_ge (t.at' (s.at' j)) (t.at' (s.at' i)) with h3 | h3
      · exact h3
      · exfalso
        have hne : t.at' (s.at' j) ≠ t.at' (s.at' i) := fun e => by have := s.inj hj hi (t.inj (s.lt hj) (s.lt hi) e); omega
        have h4 := h1 _ _ h (s.lt hi) (by omega)
        have h5 := h2 i j hij hj h
        rw [at_mul _ _ (s.lt hi), at_mul _ _ (s.lt hj)] at h4
        rw [at_mul _ _ hi, at_mul _ _ hj, at_mul _ _ (s.lt hi), at_mul _ _ (s.lt hj)] at h5
        omega
    · intro i j hij hj h
      have hi : i < n := by omega
      rw [at_mul _ _ hi, at_mul _ _ hj] at h
      rw [at_mul _ _ hi, at_mul _ _ hj, at_mul _ _ hi, at_mul _ _ hj]
      rcases Nat.lt_trichotomy (s.at' i) (s.at' j) with h3 | h3 | h3
      · have := h1 _ _ h3 (s.lt hj) h
        rw [at_mul _ _ (s.lt hi), at_mul _ _ (s.lt hj)] at this; exact this
      · have := s.inj hi hj h3; omega
      · have := h2 i j hij hj h3
        rw [at_mul _ _ hi, at_mul _ _ hj, at_mul _ _ (s.lt hi), at_mul _ _ (s.lt hj)] at this; exact this
end Pm

end Go.Proofs.YtkgdbobhppmaiaaDoor

namespace Go.Proofs.YtkgdbobhppmaiaaDoor

theorem cnt_le_cnt {f h : Nat → Bool} {n : Nat} (hm : ∀ z, z < n → f z = true → h z = true) : cnt f n ≤ cnt h n := by
  induction n with
  | zero => exact Int.le_refl _
  | succ n ih =>
    have := ih (fun z hz => hm z (by omega))
    have := hm n (by omega)
    rw [cnt_succ, cnt_succ]
    cases e1 : f n <;> cases e2 : h n <;> simp_all <;> omega
theorem cnt_lt_cnt {f h : Nat → Bool} {n : Nat} (hm : ∀ z, z < n → f z = true → h z = true) {z : Nat} (hz : z < n) (h1 : h z = true) (h2 : f z = false) : cnt f n < cnt h n := by
  induction n with
  | zero => omega
  | succ n ih =>
    rw [cnt_succ, cnt_succ]
    by_cases e : z = n
    · subst e
      have := cnt_le_cnt (f := f) (h := h) (n := z) (fun y hy => hm y (by omega))
      simp [h1, h2]; omega
    · have := ih (fun y hy => hm y (by omega)) (by omega)
      have := hm n (by omega)
      cases e1 : f n <;> cases e2 : h n <;> simp_all <;> omega

/-- pairs i < j < n that are closed under going on, and their complement too -/
structure Bi (n : Nat) (E : Nat → Nat → Bool) : Prop where
  yes : ∀ i j k, i < j → j < k → k < n → E i j = true → E j k = true → E i k = true
  no : ∀ i j k, i < j → j < k → k < n → E i j = false → E j k = false → E i k = false

/-- y comes before x -/
def bef (E : Nat → Nat → Bool) (x y : Nat) : Bool := if x < y then E x y else if y < x then !E y x else false
theorem bef_irr (E : Nat → Nat → Bool) (x : Nat) : bef E x x = false := by simp [bef]
theorem bef_asymm (E : Nat → Nat → Bool) {x y : Nat} (h : x ≠ y) : bef E x y = !bef E y x := by
  unfold bef
  rcases Nat.lt_or_gt_of_ne h with h1 | h1
  · rw [if_pos h1, if_neg (by omega), if_pos h1]; simp
  · rw [if_neg (by omega), if_pos h1, if_pos h1]
theorem bef_trans {n : Nat} {E : Nat → Nat → Bool} (hE : Bi n E) {x y z : Nat} (hx : x < n) (hy : y < n) (hz : z < n) (h1 : bef E x y = true) (h2 : bef E y z = true) : bef E x z = true := by
  unfold bef at h1 h2 ⊢
  rcases Nat.lt_trichotomy x y with a | a | a
  · rw [if_pos a] at h1
    rcases Nat.lt_trichotomy y z with b | b | b
    · rw [if_pos b] at h2
      rw [if_pos (by omega)]
      exact hE.yes x y z a b hz h1 h2
    · subst b; simp at h2
    · rw [if_neg (by omega), if_pos b] at h2
      rcases Nat.lt_trichotomy x z with c | c | c
      · rw [if_pos c]
        cases e : E x z with
        | true => rfl
        | false => rw [hE.no x z y c b hy e (by simpa using h2)] at h1; cases h1
      · subst c; rw [h1] at h2; simp at h2
      · rw [if_neg (by omega), if_pos c]
        cases e : E z x with
        | false => rfl
        | true => rw [hE.yes z x y c a hy e h1] at h2; simp at h2
  · subst a; simp at h1
  · rw [if_neg (by omega), if_pos a] at h1
    rcases Nat.lt_trichotomy y z with b | b | b
    · rw [if_pos b] at h2
      rcases Nat.lt_trichotomy x z with c | c | c
      · rw [if_pos c]
        cases e : E x z with
        | true => rfl
        | false => rw [hE.no y x z a c hz (by simpa using h1) e] at h2; cases h2
      · subst c; rw [h2] at h1; simp at h1
      · rw [if_neg (by omega), if_pos c]
        cases e : E z x with
        | false => rfl
        | true => rw [hE.yes y z x b c hx h2 e] at h1; simp at h1
    · subst b; simp at h2
    · rw [if_neg (by omega), if_pos b] at h2
      rw [if_neg (by omega), if_pos (by omega)]
      rw [hE.no z y x b a hx (by simpa using h2) (by simpa using h1)]; rfl

/-- the place of x: how many come before -/
def rankB (E : Nat → Nat → Bool) (n x : Nat) : Nat := (cnt (bef E x) n).toNat
theorem rankB_lt {n : Nat} {E : Nat → Nat → Bool} (hE : Bi n E) {x y : Nat} (hx : x < n) (hy : y < n) (h : bef E x y = true) : rankB E n y < rankB E n x := by
  have := cnt_lt_cnt (f := bef E y) (h := bef E x) (n := n) (fun z hz h2 => bef_trans hE hx hy hz h h2) hy h (bef_irr E y)
  have := cnt_nonneg (bef E y) n
  unfold rankB; omega
theorem rankB_bound {E : Nat → Nat → Bool} {n x : Nat} (hx : x < n) : rankB E n x < n := by
  have h1 := cnt_lt_cnt (f := bef E x) (h := fun _ => true) (n := n) (fun _ _ _ => rfl) hx rfl (bef_irr E x)
  have h2 := cnt_le (fun _ => true) n
  have := cnt_nonneg (bef E x) n
  unfold rankB; omega
theorem rankB_inj {n : Nat} {E : Nat → Nat → Bool} (hE : Bi n E) {x y : Nat} (hx : x < n) (hy : y < n) (e : rankB E n x = rankB E n y) : x = y := by
  rcases Nat.decEq x y with h | h
  · exfalso
    cases b : bef E x y with
    | true => have := rankB_lt hE hx hy b; omega
    | false =>
      have := rankB_lt hE hy hx (by rw [bef_asymm E (Ne.symm h), b]; rfl); omega
  · exact h

namespace Pm
variable {n : Nat}
/-- the permutation whose crossing pairs are E -/
def ofB (n : Nat) (E : Nat → Nat → Bool) (hE : Bi n E) : Pm n := ofFn n (rankB E n) (fun _ h => rankB_bound h) (fun _ _ h1 h2 e => rankB_inj hE h1 h2 e)
theorem ofB_cross {E : Nat → Nat → Bool} (hE : Bi n E) {i j : Nat} (hij : i < j) (hj : j < n) : (ofB n E hE).at' j < (ofB n E hE).at' i ↔ E i j = true := by
  have hi : i < n := by omega
  unfold ofB
  rw [at_ofFn hj, at_ofFn hi]
  have hb : bef E i j = E i j := by unfold bef; rw [if_pos hij]
  constructor
  · intro h
    cases e : E i j with
    | true => rfl
    | false =>
      have := rankB_lt hE hj hi (by rw [bef_asymm E (by omega), hb, e]; rfl)
      omega
  · intro h
    exact rankB_lt hE hi hj (by rw [hb, h])
/-- the crossing pairs of a permutation -/
def cr (p : Pm n) (i j : Nat) : Bool := decide (p.at' j < p.at' i)
theorem cr_bi (p : Pm n) : Bi n p.cr := by
  refine ⟨?_, ?_⟩
  · intro i j k _ _ _ h1 h2
    simp only [cr, decide_eq_true_eq] at h1 h2 ⊢; omega
  · intro i j k _ _ _ h1 h2
    simp only [cr, decide_eq_false_iff_not] at h1 h2 ⊢; omega
end Pm

/-- from i to j by steps of R that go up -/
def reach (R : Nat → Nat → Bool) : Nat → Nat → Nat → Bool
  | 0, _, _ => false
  | w + 1, i, j => R i j || (List.range j).any fun k => decide (i < k) && R i k && reach R w k j
theorem reach_succ (R : Nat → Nat → Bool) (w i j : Nat) : reach R (w + 1) i j = true ↔ R i j = true ∨ ∃ k, i < k ∧ k < j ∧ R i k = true ∧ reach R w k j = true := by
  rw [reach, Bool.or_eq_true, List.any_eq_true]
  constructor
  · rintro (h | ⟨k, hk, h⟩)
    · exact .inl h
    · simp only [Bool.and_eq_true, decide_eq_true_eq, List.mem_range] at h hk
      exact .inr ⟨k, h.1.1, hk, h.1.2, h.2⟩
  · rintro (h | ⟨k, h1, h2, h3, h4⟩)
    · exact .inl h
    · exact .inr ⟨k, by simpa using h2, by simp [h1, h3, h4]⟩
theorem reach_mono {R : Nat → Nat → Bool} {w v i j : Nat} (h : w ≤ v) (hr : reach R w i j = true) : reach R v i j = true := by
  induction w generalizing v i with
  | zero => cases hr
  | succ w ih =>
    obtain ⟨v, rfl⟩ : ∃ u, v = u + 1 := ⟨v - 1, by omega⟩
    rw [reach_succ] at hr ⊢
    rcases hr with h1 | ⟨k, h1, h2, h3, h4⟩
    · exact .inl h1
    · exact .inr ⟨k, h1, h2, h3, ih (by omega) h4⟩
theorem reach_short {R : Nat → Nat → Bool} {w i j : Nat} (hij : i < j) (hr : reach R w i j = true) : reach R (j - i) i j = true := by
  induction w generalizing i with
  | zero => cases hr
  | succ w ih =>
    obtain ⟨v, hv⟩ : ∃ u, j - i = u + 1 := ⟨j - i - 1, by omega⟩
    rw [hv, reach_succ]
    rw [reach_succ] at hr
    rcases hr with h1 | ⟨k, h1, h2, h3, h4⟩
    · exact .inl h1
    · exact .inr ⟨k, h1, h2, h3, reach_mono (by omega) (ih h2 h4)⟩
/-- the closure of R under going on -/
def clos (R : Nat → Nat → Bool) (i j : Nat) : Bool := reach R j i j
theorem clos_of {R : Nat → Nat → Bool} {w i j : Nat} (hij : i < j) (hr : reach R w i j = true) : clos R i j = true := reach_mono (by omega) (reach_short hij hr)
theorem clos_base {R : Nat → Nat → Bool} {i j : Nat} (hij : i < j) (h : R i j = true) : clos R i j = true := clos_of (w := 1) hij (by rw [reach_succ]; exact .inl h)
theorem reach_trans {R : Nat → Nat → Bool} {w v i j k : Nat} (hij : i < j) (hjk : j < k) (h1 : reach R w i j = true) (h2 : reach R v j k = true) : reach R (w + v) i k = true := by
  induction w generalizing i with
  | zero => cases h1
  | succ w ih =>
    rw [show w + 1 + v = (w + v) + 1 by omega, reach_succ]
    rw [reach_succ] at h1
    rcases h1 with h | ⟨m, a, b, c, d⟩
    · exact .inr ⟨j, hij, hjk, h, reach_mono (by omega) h2⟩
    · exact .inr ⟨m, a, by omega, c, ih b d⟩
theorem clos_trans {R : Nat → Nat → Bool} {i j k : Nat} (hij : i < j) (hjk : j < k) (h1 : clos R i j = true) (h2 : clos R j k = true) : clos R i k = true := clos_of (by omega) (reach_trans hij hjk h1 h2)
/-- what holds of R and goes on holds of the closure -/
theorem clos_ind {R : Nat → Nat → Bool} {n : Nat} {P : Nat → Nat → Prop} (hb : ∀ i j, i < j → j < n → R i j = true → P i j) (ht : ∀ i j k, i < j → j < k → k < n → P i j → P j k → P i k) {i j : Nat} (hij : i < j) (hj : j < n) (h : clos R i j = true) : P i j := by
  have key : ∀ w i, i < j → reach R w i j = true → P i j := by
    intro w
    induction w with
    | zero => intro i _ h; cases h
    | succ w ih =>
      intro i hij h
      rw [reach_succ] at h
      rcases h with h | ⟨k, a, b, c, d⟩
      · exact hb i j hij hj h
      · exact ht i k j a b hj (hb i k a (by omega) c) (ih k b d)
  exact key _ i hij h
/-- if what R lacks comes from two sets whose complements go on, the closure's complement goes on -/
theorem clos_no {R A B : Nat → Nat → Bool} {n : Nat} (hR : ∀ i j, i < j → j < n → R i j = (A i j || B i j)) (hA : Bi n A) (hB : Bi n B) : Bi n (clos R) := by
  refine ⟨fun i j k hij hjk _ h1 h2 => clos_trans hij hjk h1 h2, ?_⟩
  intro i j k hij hjk hk h1 h2
  cases e : clos R i k with
  | false => rfl
  | true =>
    exfalso
    have key : ∀ w i, i < j → clos R i j = false → reach R w i k = true → False := by
      intro w
      induction w with
      | zero => intro i _ _ h; cases h
      | succ w ih =>
        intro i hij h1 h
        rw [reach_succ] at h
        have step : ∀ m, j < m → m ≤ k → R i m = true → (m = k ∨ clos R m k = true) → False := by
          intro m hm hmk hR' hrest
          rw [hR i m (by omega) (by omega), Bool.or_eq_true] at hR'
          have fin : ∀ C : Nat → Nat → Bool, Bi n C → (∀ a b, a < b → b < n → C a b = true → R a b = true) → C i m = true → False := by
            intro C hC hCR hc
            cases e1 : C i j with
            | true => rw [clos_base hij (hCR i j hij (by omega) e1)] at h1; cases h1
            | false =>
              cases e2 : C j m with
              | false => rw [hC.no i j m hij hm (by omega) e1 e2] at hc; cases hc
              | true =>
                have h3 := clos_base hm (hCR j m hm (by omega) e2)
                rcases hrest with rfl | hrest
                · rw [h3] at h2; cases h2
                · rw [clos_trans hm (by rcases Nat.lt_or_ge m k with h | h; exact h; exfalso; obtain rfl : m = k := by omega
                                        rw [h3] at h2; cases h2) h3 hrest] at h2; cases h2
          rcases hR' with h5 | h5
          · exact fin A hA (fun a b h6 h7 h8 => by rw [hR a b h6 h7, h8]; rfl) h5
          · exact fin B hB (fun a b h6 h7 h8 => by rw [hR a b h6 h7, h8]; simp) h5
        rcases h with h | ⟨m, a, b, c, d⟩
        · exact step k hjk (Nat.le_refl _) h (.inl rfl)
        · rcases Nat.lt_trichotomy m j with h3 | h3 | h3
          · refine ih m h3 ?_ d
            cases e4 : clos R m j with
            | false => rfl
            | true => rw [clos_trans a h3 (clos_base a c) e4] at h1; cases h1
          · subst h3; rw [clos_base a c] at h1; cases h1
          · exact step m h3 (by omega) c (.inr (clos_of b d))
    exact key _ i hij h1 e
theorem bi_not {n : Nat} {E : Nat → Nat → Bool} (h : Bi n E) : Bi n (fun i j => !E i j) :=
  ⟨fun i j k a b c h1 h2 => by simp only [Bool.not_eq_true'] at *; exact h.no i j k a b c h1 h2, fun i j k a b c h1 h2 => by simp only [Bool.not_eq_false'] at *; exact h.yes i j k a b c h1 h2⟩

namespace Pm
variable {n : Nat}
/-- pairs that do not cross in one of two -/
def keepR (a b : Pm n) (i j : Nat) : Bool := !a.cr i j || !b.cr i j
theorem keep_bi (a b : Pm n) : Bi n (clos (keepR a b)) := clos_no (A := fun i j => !a.cr i j) (B := fun i j => !b.cr i j) (fun _ _ _ _ => rfl) (bi_not a.cr_bi) (bi_not b.cr_bi)
/-- the greatest common beginning -/
def meet (a b : Pm n) : Pm n := ofB n (fun i j => !clos (keepR a b) i j) (bi_not (keep_bi a b))
theorem meet_cross (a b : Pm n) {i j : Nat} (hij : i < j) (hj : j < n) : (meet a b).at' j < (meet a b).at' i ↔ clos (keepR a b) i j = false := by
  unfold meet
  rw [ofB_cross _ hij hj]; simp
theorem meet_le_left (a b : Pm n) : le (meet a b) a := by
  intro i j hij hj h
  rw [meet_cross a b hij hj] at h
  rcases Nat.lt_or_ge (a.at' j) (a.at' i) with h1 | h1
  · exact h1
  · rw [clos_base hij (by simp [keepR, cr]; omega)] at h; cases h
theorem meet_le_right (a b : Pm n) : le (meet a b) b := by
  intro i j hij hj h
  rw [meet_cross a b hij hj] at h
  rcases Nat.lt_or_ge (b.at' j) (b.at' i) with h1 | h1
  · exact h1
  · rw [clos_base hij (by simp [keepR, cr]; omega)] at h; cases h
theorem le_meet {a b t : Pm n} (h1 : le t a) (h2 : le t b) : le t (meet a b) := by
  intro i j hij hj h
  rw [meet_cross a b hij hj]
  cases e : clos (keepR a b) i j with
  | false => rfl
  | true =>
    exfalso
    have := clos_ind (n := n) (P := fun i j => ¬ t.at' j < t.at' i) (R := keepR a b) (by
      intro i j hij hj hr h3
      have := h1 i j hij hj h3
      have := h2 i j hij hj h3
      simp [keepR, cr] at hr; omega) (by intro i j k _ _ _ h3 h4; omega) hij hj e
    exact this h

/-- the theory of normal forms holds of the permutations of n things -/
def gar (n : Nat) : Gar (Pm n) where
  mul := mul
  one := one n
  inv := inv
  le := le
  top := top n
  M := fun s x => meet x (mul (inv s) (top n))
  assoc := assoc
  one_mul := one_mul
  mul_one := mul_one
  inv_mul := inv_mul
  mul_inv := mul_inv
  le_refl := le_refl
  le_trans := le_trans
  le_antisymm := le_antisymm
  one_le := one_le
  le_top := le_top
  shift := shift
  M_le := fun _ _ => meet_le_left _ _
  M_red := fun s x => by
    have h := meet_le_right x (mul (inv s) (top n))
    generalize meet x (mul (inv s) (top n)) = m at *
    have e1 : mul m (mul (inv m) (mul (inv s) (top n))) = mul (inv s) (top n) := by rw [← assoc, mul_inv, one_mul]
    have e2 : mul s (mul (inv s) (top n)) = top n := by rw [← assoc, mul_inv, one_mul]
    exact ((shift s m (mul (inv m) (mul (inv s) (top n)))).2 ⟨by rw [e1]; exact h, by rw [e1, e2]; exact le_top _⟩).1
  M_max := fun s x t h1 h2 => by
    refine le_meet h1 ?_
    have e1 : mul (mul s t) (mul (inv (mul s t)) (top n)) = top n := by rw [← assoc, mul_inv, one_mul]
    have h := ((shift s t (mul (inv (mul s t)) (top n))).1 ⟨h2, by rw [e1]; exact le_top _⟩).1
    have e2 : mul t (mul (inv (mul s t)) (top n)) = mul (inv s) (top n) := by
      have : mul s (mul t (mul (inv (mul s t)) (top n))) = top n := by rw [← assoc, e1]
      have h3 := congrArg (mul (inv s)) this
      rwa [← assoc, inv_mul, one_mul] at h3
    rw [e2] at h; exact h
  top_top := top_top
end Pm

end Go.Proofs.YtkgdbobhppmaiaaDoor

namespace Go.Proofs.YtkgdbobhppmaiaaDoor
set_option linter.unusedSectionVars false
namespace Gar
variable {G : Type} [DecidableEq G] (g : Gar G)

/-- a list of simple elements in front of a list -/
def on (w N : List G) : List G := w.foldr g.mult N
theorem on_nil (N : List G) : g.on [] N = N := rfl
theorem on_cons (s : G) (w N : List G) : g.on (s :: w) N = g.mult s (g.on w N) := rfl
theorem on_append (u v N : List G) : g.on (u ++ v) N = g.on u (g.on v N) := by
  unfold on; rw [List.foldr_append]
theorem nf_on (w : List G) : g.nf w = g.on w [] := rfl
theorem nf_append (u v : List G) : g.nf (u ++ v) = g.on u (g.nf v) := g.on_append u v []
theorem mult_on (s : G) (L N : List G) : g.mult s (g.on L N) = g.on (g.mult s L) N := by
  induction L generalizing s with
  | nil =>
    show g.mult s N = _
    by_cases e : s = g.one
    · subst e; rw [g.mult_one]; simp [mult, on]
    · simp [mult, e, on]
  | cons x L ih =>
    rw [mult, on_cons, on_cons, ← ih]
    have e : g.hd s x = g.mul s (g.M s x) := rfl
    rw [e, ← g.mult_mult (g.red_M s x), g.mult_mult (g.red_M_rm s x), g.M_rm]
theorem on_nf (w N : List G) : g.on (g.nf w) N = g.on w N := by
  induction w with
  | nil => rfl
  | cons s w ih =>
    show g.on (g.mult s (g.nf w)) N = g.mult s (g.on w N)
    rw [← g.mult_on, ih]
theorem on_stab (w N : List G) (h : g.Stab N) : g.Stab (g.on w N) := by
  induction w with
  | nil => exact h
  | cons s w ih => exact g.mult_stab s _ ih

/-- two lists that may stand for one another -/
def Eqv (w w' : List G) : Prop := ∀ N, g.on w N = g.on w' N
theorem eqv_refl (w : List G) : g.Eqv w w := fun _ => rfl
theorem eqv_symm {w w' : List G} (h : g.Eqv w w') : g.Eqv w' w := fun N => (h N).symm
theorem eqv_trans {a b c : List G} (h : g.Eqv a b) (k : g.Eqv b c) : g.Eqv a c := fun N => (h N).trans (k N)
theorem eqv_app {u u' v v' : List G} (h : g.Eqv u u') (k : g.Eqv v v') : g.Eqv (u ++ v) (u' ++ v') := fun N => by
  rw [g.on_append, g.on_append, h, k]
theorem eqv_nf (w : List G) : g.Eqv (g.nf w) w := g.on_nf w
theorem nf_of_eqv {w w' : List G} (h : g.Eqv w w') : g.nf w = g.nf w' := h []
theorem eqv_of_nf {w w' : List G} (h : g.nf w = g.nf w') : g.Eqv w w' := fun N => by rw [← g.on_nf w, h, g.on_nf]
theorem eqv_pair {s t : G} (h : g.red s t) : g.Eqv [s, t] [g.mul s t] := fun N => g.mult_mult h N
theorem eqv_one : g.Eqv [g.one] [] := fun N => g.mult_one N
theorem eqv_move {s t m : G} (h1 : g.red s m) (h2 : g.le m t) : g.Eqv [s, t] [g.mul s m, g.mul (g.inv m) t] := by
  intro N
  have h3 : g.red m (g.mul (g.inv m) t) := by unfold red; rw [g.cancel']; exact h2
  show g.mult s (g.mult t N) = g.mult (g.mul s m) (g.mult (g.mul (g.inv m) t) N)
  rw [← g.mult_mult h1, g.mult_mult h3, g.cancel']
theorem nf_nf (w : List G) : g.nf (g.nf w) = g.nf w := g.nf_of_stab (g.nf_stab w)

/-- neighbours are left-weighted; ones may stand anywhere -/
def Wt : List G → Prop
  | [] => True
  | [_] => True
  | x :: y :: L => g.M x y = g.one ∧ Wt (y :: L)
theorem wt_tail {x : G} {L : List G} (h : g.Wt (x :: L)) : g.Wt L := by
  cases L with
  | nil => trivial
  | cons y L => exact h.2
theorem wt_one {L : List G} (h : g.Wt (g.one :: L)) : L.filter (fun x => decide (x ≠ g.one)) = [] := by
  induction L with
  | nil => rfl
  | cons y L ih =>
    have h1 := h.1
    rw [g.M_one_left] at h1
    subst h1
    simpa using ih h.2
theorem nf_filter (L : List G) : g.nf (L.filter fun x => decide (x ≠ g.one)) = g.nf L := by
  induction L with
  | nil => rfl
  | cons x L ih =>
    by_cases e : x = g.one
    · subst e
      rw [List.filter_cons_of_neg (by simp), ih]
      show _ = g.mult g.one (g.nf L)
      rw [g.mult_one]
    · rw [List.filter_cons_of_pos (by simpa using e)]
      exact congrArg (g.mult x) ih
theorem lw_filter {L : List G} (h : g.Wt L) : g.Lw (L.filter fun x => decide (x ≠ g.one)) := by
  induction L with
  | nil => trivial
  | cons x L ih =>
    by_cases e : x = g.one
    · subst e
      rw [List.filter_cons_of_neg (by simp), g.wt_one h]; trivial
    · rw [List.filter_cons_of_pos (by simpa using e)]
      cases L with
      | nil => exact e
      | cons y L =>
        have ih' := ih h.2
        by_cases e2 : y = g.one
        · subst e2
          rw [List.filter_cons_of_neg (by simp), g.wt_one h.2]; exact e
        · rw [List.filter_cons_of_pos (by simpa using e2)] at ih' ⊢
          exact ⟨e, h.1, ih'⟩
/-- a list whose neighbours are left-weighted is its own normal form, but for ones -/
theorem nf_wt {L : List G} (h : g.Wt L) : g.nf L = L.filter fun x => decide (x ≠ g.one) := by
  rw [← g.nf_filter, g.nf_of_stab (g.stab_of_lw (g.lw_filter h))]
theorem wt_of_stab {L : List G} (h : g.Stab L) : g.Wt L := by
  induction L with
  | nil => trivial
  | cons x L ih =>
    cases L with
    | nil => trivial
    | cons y L =>
      refine ⟨?_, ih h.2.2⟩
      have h1 := h.2.1
      rw [mult] at h1
      have h2 : g.hd x y = x := by injection h1
      unfold hd at h2
      exact g.mul_left (a := x) (by rw [h2, g.mul_one])
theorem M_at_top {x : G} (h : g.M x g.top = g.one) : x = g.top := by
  have := g.hd_at_top x
  unfold hd at this
  rwa [h, g.mul_one] at this
theorem wt_no_top {x : G} {L : List G} (hx : x ≠ g.top) (h : g.Wt (x :: L)) : ∀ y ∈ x :: L, y ≠ g.top := by
  induction L generalizing x with
  | nil => intro y hy; simp at hy; rw [hy]; exact hx
  | cons z L ih =>
    intro y hy
    rcases List.mem_cons.1 hy with rfl | hy
    · exact hx
    · refine ih ?_ h.2 y hy
      rintro rfl
      exact hx (g.M_at_top h.1)

/-! seen from the other side -/
theorem red_rot {a c e : G} (h : g.mul a (g.mul c e) = g.top) (hr : g.red a c) : g.mul c (g.mul e (g.tau a)) = g.top ∧ g.red c e := by
  have hs := (g.shift a c e).1 ⟨hr, by rw [g.assoc, h]; exact g.le_top _⟩
  refine ⟨?_, hs.1⟩
  have e1 : g.mul c e = g.mul (g.inv a) g.top := by rw [← h, g.cancel]
  rw [← g.assoc, e1]; unfold tau
  rw [g.assoc, ← g.assoc g.top g.top, g.top_top, g.one_mul, g.cancel]
theorem red_tau {a c : G} (h : g.red a c) : g.red (g.tau a) (g.tau c) := by
  have h0 : g.mul a (g.mul c (g.mul (g.inv (g.mul a c)) g.top)) = g.top := by rw [← g.assoc, g.cancel']
  generalize g.mul (g.inv (g.mul a c)) g.top = e at h0
  obtain ⟨h1, r1⟩ := g.red_rot h0 h
  obtain ⟨h2, r2⟩ := g.red_rot h1 r1
  exact (g.red_rot h2 r2).2
theorem tau_inv (a : G) : g.tau (g.inv a) = g.inv (g.tau a) := g.mul_left (a := g.tau a) (by rw [← g.tau_mul, g.mul_inv, g.tau_one, g.mul_inv])
theorem le_tau {a b : G} (h : g.le a b) : g.le (g.tau a) (g.tau b) := by
  have h1 : g.red a (g.mul (g.inv a) b) := by unfold red; rw [g.cancel']; exact h
  have h2 := g.red_tau h1
  unfold red at h2
  rwa [← g.tau_mul, g.cancel'] at h2
theorem M_tau (s x : G) : g.M (g.tau s) (g.tau x) = g.tau (g.M s x) := by
  apply g.le_antisymm
  · have h1 : g.le (g.tau (g.M (g.tau s) (g.tau x))) x := by have := g.le_tau (g.M_le (g.tau s) (g.tau x)); rwa [g.tau_tau] at this
    have h2 : g.red s (g.tau (g.M (g.tau s) (g.tau x))) := by have := g.red_tau (g.red_M (g.tau s) (g.tau x)); rwa [g.tau_tau] at this
    have := g.le_tau (g.M_max _ _ _ h1 h2)
    rwa [g.tau_tau] at this
  · exact g.M_max _ _ _ (g.le_tau (g.M_le s x)) (g.red_tau (g.red_M s x))
theorem tau_eq_one {s : G} : g.tau s = g.one ↔ s = g.one := ⟨fun h => by rw [← g.tau_tau s, h, g.tau_one], fun h => by rw [h, g.tau_one]⟩
theorem tau_eq_top {s : G} : g.tau s = g.top ↔ s = g.top := ⟨fun h => by rw [← g.tau_tau s, h, g.tau_top], fun h => by rw [h, g.tau_top]⟩
theorem mult_tau (s : G) (L : List G) : g.mult (g.tau s) (L.map g.tau) = (g.mult s L).map g.tau := by
  induction L generalizing s with
  | nil =>
    by_cases e : s = g.one
    · simp [mult, e, g.tau_one]
    · have : g.tau s ≠ g.one := fun h => e (g.tau_eq_one.1 h)
      simp [mult, e, this]
  | cons x L ih =>
    have h1 : g.hd (g.tau s) (g.tau x) = g.tau (g.hd s x) := by unfold hd; rw [g.M_tau, g.tau_mul]
    have h2 : g.rm (g.tau s) (g.tau x) = g.tau (g.rm s x) := by unfold rm; rw [g.M_tau, g.tau_mul, g.tau_inv]
    rw [List.map_cons, mult, mult, h1, h2, ih, List.map_cons]
theorem on_tau (w N : List G) : g.on (w.map g.tau) (N.map g.tau) = (g.on w N).map g.tau := by
  induction w with
  | nil => rfl
  | cons s w ih => rw [List.map_cons, on_cons, ih, g.mult_tau]; rfl
theorem nf_tau (w : List G) : g.nf (w.map g.tau) = (g.nf w).map g.tau := g.on_tau w []
theorem map_tau_tau (w : List G) : (w.map g.tau).map g.tau = w := by simp [List.map_map, Function.comp_def, g.tau_tau]

/-! half twists in front -/
theorem on_top (w N : List G) : g.on w (g.top :: N) = g.top :: g.on (w.map g.tau) N := by
  induction w with
  | nil => rfl
  | cons s w ih => rw [on_cons, ih, g.mult_at_top]; rfl
theorem tw_zero (x : G) : g.tw 0 x = x := by unfold tw; rw [if_pos (by decide)]
theorem map_tw_zero (w : List G) : w.map (g.tw 0) = w := by
  rw [show g.tw 0 = id from funext g.tw_zero, List.map_id]
theorem map_tw_tw (p q : Int) (w : List G) : (w.map (g.tw q)).map (g.tw p) = w.map (g.tw (p + q)) := by
  rw [List.map_map]; congr 1; funext x; exact g.tw_tw p q x
theorem map_tau (w : List G) : w.map g.tau = w.map (g.tw 1) := by
  rw [show g.tau = g.tw 1 from funext fun x => (g.tw_one_arg x).symm]
theorem nf_tw (q : Int) (w : List G) : g.nf (w.map (g.tw q)) = (g.nf w).map (g.tw q) := by
  by_cases h : q % 2 = 0
  · have : g.tw q = id := by funext x; unfold tw; rw [if_pos h]; rfl
    rw [this, List.map_id, List.map_id]
  · have : g.tw q = g.tau := by funext x; unfold tw; rw [if_neg h]
    rw [this, g.nf_tau]
theorem tw_eq_top {q : Int} {x : G} : g.tw q x = g.top ↔ x = g.top := by
  unfold tw; split
  · exact Iff.rfl
  · exact g.tau_eq_top
theorem tw_eq_one {q : Int} {x : G} : g.tw q x = g.one ↔ x = g.one := by
  unfold tw; split
  · exact Iff.rfl
  · exact g.tau_eq_one
theorem on_tops (w : List G) (j : Nat) (N : List G) : g.on w (List.replicate j g.top ++ N) = List.replicate j g.top ++ g.on (w.map (g.tw j)) N := by
  induction j generalizing w with
  | zero =>
    have : w.map (g.tw ((0 : Nat) : Int)) = w := g.map_tw_zero w
    rw [this]; rfl
  | succ j ih =>
    rw [List.replicate_succ, List.cons_append, g.on_top, ih, g.map_tau, g.map_tw_tw]
    rfl
theorem tops_on {N : List G} (h : g.Stab N) (hne : g.top ≠ g.one) (j : Nat) : g.on (List.replicate j g.top) N = List.replicate j g.top ++ N ∧ g.Stab (List.replicate j g.top ++ N) := by
  induction j with
  | zero => exact ⟨rfl, h⟩
  | succ j ih =>
    have e := g.mult_top ih.2 hne
    refine ⟨?_, ?_⟩
    · rw [List.replicate_succ, on_cons, ih.1, e]; rfl
    · rw [List.replicate_succ, List.cons_append]; exact ⟨hne, e, ih.2⟩

/-- the normal form of a power of the half twist and a list behind it -/
def NF (x : St G) : St G := g.norm (x.1, g.nf x.2)
theorem norm_split (p : Int) (L : List G) : ∃ j : Nat, L = List.replicate j g.top ++ (g.norm (p, L)).2 ∧ (g.norm (p, L)).1 = p + j := by
  induction L generalizing p with
  | nil => exact ⟨0, rfl, by simp [norm_nil]⟩
  | cons x L ih =>
    by_cases e : x = g.top
    · subst e
      obtain ⟨j, h1, h2⟩ := ih (p + 1)
      refine ⟨j + 1, ?_, ?_⟩
      · rw [norm_top, List.replicate_succ, List.cons_append, ← h1]
      · rw [norm_top, h2]; omega
    · exact ⟨0, by rw [g.norm_cons e]; rfl, by rw [g.norm_cons e]; simp⟩
theorem norm_tops (p : Int) (j : Nat) (L : List G) : g.norm (p, List.replicate j g.top ++ L) = g.norm (p + j, L) := by
  induction j generalizing p with
  | zero => simp
  | succ j ih => rw [List.replicate_succ, List.cons_append, norm_top, ih]; congr 2; omega
theorem NF_stab (x : St G) : g.Stab (g.NF x).2 := g.norm_stab (g.nf_stab x.2)
theorem NF_nf (p : Int) (w : List G) : g.NF (p, g.nf w) = g.NF (p, w) := by unfold NF; simp only; rw [g.nf_nf]
theorem NF_up (k p : Int) (w : List G) : g.NF (p + k, w) = ((g.NF (p, w)).1 + k, (g.NF (p, w)).2) := g.norm_up k p (g.nf w)
theorem norm_tw (q p : Int) (L : List G) : g.norm (p, L.map (g.tw q)) = ((g.norm (p, L)).1, (g.norm (p, L)).2.map (g.tw q)) := by
  induction L generalizing p with
  | nil => rfl
  | cons x L ih =>
    by_cases e : x = g.top
    · subst e; rw [List.map_cons, g.tw_top, norm_top, norm_top, ih]
    · have : g.tw q x ≠ g.top := fun h => e (g.tw_eq_top.1 h)
      rw [List.map_cons, g.norm_cons this, g.norm_cons e]; rfl
theorem NF_tw (q p : Int) (w : List G) : g.NF (p, w.map (g.tw q)) = ((g.NF (p, w)).1, (g.NF (p, w)).2.map (g.tw q)) := by
  show g.norm (p, g.nf (w.map (g.tw q))) = _
  rw [g.nf_tw, g.norm_tw]; rfl
theorem top_ne_of {j : Nat} {L w : List G} (h : g.nf w = List.replicate j g.top ++ L) : j = 0 ∨ g.top ≠ g.one := by
  cases j with
  | zero => exact .inl rfl
  | succ j =>
    right
    have := g.nf_stab w
    rw [h, List.replicate_succ] at this
    exact this.1
theorem NF_right (p : Int) (w v : List G) : g.NF (p, w ++ v) = g.NF ((g.NF (p, w)).1, (g.NF (p, w)).2 ++ v) := by
  obtain ⟨j, h1, h2⟩ := g.norm_split p (g.nf w)
  have e : g.NF (p, w) = g.norm (p, g.nf w) := rfl
  rw [e, h2]
  generalize (g.norm (p, g.nf w)).2 = L at *
  show g.norm (p, g.nf (w ++ v)) = g.norm (p + j, g.nf (L ++ v))
  rw [g.nf_append, g.nf_append, ← g.on_nf w, h1, g.on_append]
  rcases g.top_ne_of h1 with rfl | hne
  · simp [on_nil]
  · rw [(g.tops_on (g.on_stab L _ (g.nf_stab v)) hne j).1, g.norm_tops]
theorem NF_left (p q : Int) (w v : List G) : g.NF (p + q, w.map (g.tw q) ++ v) = g.NF (p + (g.NF (q, v)).1, w.map (g.tw (g.NF (q, v)).1) ++ (g.NF (q, v)).2) := by
  obtain ⟨j, h1, h2⟩ := g.norm_split q (g.nf v)
  have hst := g.NF_stab (q, v)
  have e : g.NF (q, v) = g.norm (q, g.nf v) := rfl
  rw [e] at hst ⊢
  rw [h2]
  generalize (g.norm (q, g.nf v)).2 = L at *
  show g.norm (p + q, g.nf (w.map (g.tw q) ++ v)) = g.norm (p + (q + j), g.nf (w.map (g.tw (q + j)) ++ L))
  rw [g.nf_append, h1, g.on_tops, g.map_tw_tw, g.norm_tops, g.nf_append, g.nf_of_stab hst]
  congr 2
  · omega
  · congr 3; omega
/-- one state behind another -/
def join (x y : St G) : St G := g.NF (x.1 + y.1, x.2.map (g.tw y.1) ++ y.2)
theorem join_NF (x y : St G) : g.join (g.NF x) (g.NF y) = g.join x y := by
  obtain ⟨p, w⟩ := x
  obtain ⟨q, v⟩ := y
  unfold join
  simp only
  rw [g.NF_left p q w v]
  generalize g.NF (q, v) = y
  obtain ⟨q', v'⟩ := y
  simp only
  rw [g.NF_right (p + q') (w.map (g.tw q')) v', g.NF_up q' p, g.NF_tw]

/-! letters behind -/
/-- a letter: whether it is positive, and its simple element -/
abbrev Lt (G : Type) := Bool × G
/-- a letter behind a state -/
def stp (x : St G) (l : Lt G) : St G := if l.1 then (x.1, x.2 ++ [l.2]) else (x.1 - 1, x.2.map g.tau ++ [g.mul g.top (g.inv l.2)])
theorem stp_pos (x : St G) (s : G) : g.stp x (true, s) = (x.1, x.2 ++ [s]) := rfl
theorem stp_neg (x : St G) (s : G) : g.stp x (false, s) = (x.1 - 1, x.2.map g.tau ++ [g.mul g.top (g.inv s)]) := rfl
def stps (x : St G) (w : List (Lt G)) : St G := w.foldl g.stp x
theorem stps_nil (x : St G) : g.stps x [] = x := rfl
theorem stps_cons (x : St G) (l : Lt G) (w : List (Lt G)) : g.stps x (l :: w) = g.stps (g.stp x l) w := rfl
theorem stps_append (x : St G) (u v : List (Lt G)) : g.stps x (u ++ v) = g.stps (g.stps x u) v := by unfold stps; rw [List.foldl_append]
/-- the state of a word -/
def raw (w : List (Lt G)) : St G := g.stps (0, []) w
theorem raw_append (u v : List (Lt G)) : g.raw (u ++ v) = g.stps (g.raw u) v := g.stps_append _ u v
theorem stps_join (w : List (Lt G)) (p q : Int) (L M : List G) :
    g.stps (p + q, L.map (g.tw q) ++ M) w = (p + (g.stps (q, M) w).1, L.map (g.tw (g.stps (q, M) w).1) ++ (g.stps (q, M) w).2) := by
  induction w generalizing q M with
  | nil => rfl
  | cons l w ih =>
    obtain ⟨b, s⟩ := l
    cases b with
    | true =>
      rw [stps_cons, stps_cons, stp_pos, stp_pos]
      simp only
      rw [List.append_assoc, ih]
    | false =>
      rw [stps_cons, stps_cons, stp_neg, stp_neg]
      simp only
      rw [← ih, List.map_append, g.map_tau (L.map _), g.map_tw_tw, List.append_assoc]
      congr 2
      · omega
      · congr 1
        congr 1
        funext x
        unfold tw
        by_cases h : q % 2 = 0
        · rw [if_neg (by omega), if_neg (by omega)]
        · rw [if_pos (by omega), if_pos (by omega)]
theorem stps_raw (x : St G) (w : List (Lt G)) : g.stps x w = (x.1 + (g.raw w).1, x.2.map (g.tw (g.raw w).1) ++ (g.raw w).2) := by
  have := g.stps_join w x.1 0 x.2 []
  rw [g.map_tw_zero] at this
  simp only [Int.add_zero, List.append_nil] at this
  exact this
theorem NF_stp (x : St G) (l : Lt G) : g.NF (g.stp (g.NF x) l) = g.NF (g.stp x l) := by
  obtain ⟨p, w⟩ := x
  obtain ⟨b, s⟩ := l
  cases b with
  | true => rw [stp_pos, stp_pos]; exact (g.NF_right p w [s]).symm
  | false =>
    rw [stp_neg, stp_neg]
    simp only
    rw [g.NF_right (p - 1) (w.map g.tau), g.map_tau, g.map_tau, show p - 1 = p + (-1) by omega, g.NF_up (-1) p, g.NF_tw]
    rfl
theorem NF_stp_congr {x y : St G} (h : g.NF x = g.NF y) (l : Lt G) : g.NF (g.stp x l) = g.NF (g.stp y l) := by rw [← g.NF_stp x, h, g.NF_stp]
theorem NF_stps_congr {x y : St G} (h : g.NF x = g.NF y) (w : List (Lt G)) : g.NF (g.stps x w) = g.NF (g.stps y w) := by
  induction w generalizing x y with
  | nil => exact h
  | cons l w ih => exact ih (g.NF_stp_congr h l)
theorem NF_trivial : g.NF (0, []) = (0, []) := rfl
theorem NF_NF (x : St G) : g.NF (g.NF x) = g.NF x := by
  show g.norm ((g.NF x).1, g.nf (g.NF x).2) = _
  rw [g.nf_of_stab (g.NF_stab x)]
  exact g.norm_norm _
/-- the normal form, kept at every letter -/
theorem NF_fold (w : List (Lt G)) (x : St G) : w.foldl (fun x l => g.NF (g.stp x l)) (g.NF x) = g.NF (g.stps x w) := by
  induction w generalizing x with
  | nil => rfl
  | cons l w ih => rw [List.foldl_cons, g.NF_stp, ih]; rfl
theorem NF_eqv {w w' : List G} (h : g.Eqv w w') (p : Int) : g.NF (p, w) = g.NF (p, w') := by
  show g.norm (p, g.nf w) = g.norm (p, g.nf w')
  rw [g.nf_of_eqv h]
theorem NF_end_top (hne : g.top ≠ g.one) (p : Int) (w : List G) : g.NF (p, w ++ [g.top]) = g.NF (p + 1, w.map g.tau) := by
  show g.norm (p, g.nf (w ++ [g.top])) = g.norm (p + 1, g.nf (w.map g.tau))
  rw [g.nf_append]
  have e : g.nf [g.top] = [g.top] := by simp [nf, mult, hne]
  rw [e, g.on_top, norm_top]; rfl
theorem NF_cancel (hne : g.top ≠ g.one) (x : St G) (b : Bool) (s : G) : g.NF (g.stp (g.stp x (b, s)) (!b, s)) = g.NF x := by
  obtain ⟨p, w⟩ := x
  cases b with
  | true =>
    have e : g.mul (g.tau s) (g.mul g.top (g.inv s)) = g.top := by
      unfold tau
      rw [g.assoc, g.assoc, ← g.assoc g.top g.top, g.top_top, g.one_mul, g.mul_inv, g.mul_one]
    have h : g.red (g.tau s) (g.mul g.top (g.inv s)) := by unfold red; rw [e]; exact g.le_top _
    have h1 := g.eqv_pair h
    rw [e] at h1
    show g.NF (p - 1, (w ++ [s]).map g.tau ++ [g.mul g.top (g.inv s)]) = g.NF (p, w)
    rw [List.map_append, List.append_assoc, List.map_singleton, List.singleton_append]
    rw [g.NF_eqv (g.eqv_app (g.eqv_refl (w.map g.tau)) h1), g.NF_end_top hne, g.map_tau_tau]
    congr 2; omega
  | false =>
    have e : g.mul (g.mul g.top (g.inv s)) s = g.top := by rw [g.assoc, g.inv_mul, g.mul_one]
    have h : g.red (g.mul g.top (g.inv s)) s := by unfold red; rw [e]; exact g.le_top _
    have h1 := g.eqv_pair h
    rw [e] at h1
    show g.NF (p - 1, (w.map g.tau ++ [g.mul g.top (g.inv s)]) ++ [s]) = g.NF (p, w)
    rw [List.append_assoc, List.singleton_append]
    rw [g.NF_eqv (g.eqv_app (g.eqv_refl (w.map g.tau)) h1), g.NF_end_top hne, g.map_tau_tau]
    congr 2; omega

/-! words that are the same braid -/
def Wq (w w' : List (Lt G)) : Prop := ∀ x, g.NF (g.stps x w) = g.NF (g.stps x w')
theorem Wq.refl (w : List (Lt G)) : g.Wq w w := fun _ => rfl
theorem Wq.symm {w w' : List (Lt G)} (h : g.Wq w w') : g.Wq w' w := fun x => (h x).symm
theorem Wq.trans {a b c : List (Lt G)} (h : g.Wq a b) (k : g.Wq b c) : g.Wq a c := fun x => (h x).trans (k x)
theorem Wq.app {u u' v v' : List (Lt G)} (h : g.Wq u u') (k : g.Wq v v') : g.Wq (u ++ v) (u' ++ v') := fun x => by
  rw [g.stps_append, g.stps_append, g.NF_stps_congr (h x) v, k]
theorem Wq.raw {w w' : List (Lt G)} (h : g.Wq w w') : g.NF (g.raw w) = g.NF (g.raw w') := h _
theorem Wq.of_raw {w w' : List (Lt G)} (h : g.NF (g.raw w) = g.NF (g.raw w')) : g.Wq w w' := by
  intro x
  rw [g.stps_raw, g.stps_raw x w']
  have h1 := g.join_NF x (g.raw w)
  have h2 := g.join_NF x (g.raw w')
  rw [h] at h1
  exact h1.symm.trans h2
/-- the letters backwards, with the other signs -/
def winv (w : List (Lt G)) : List (Lt G) := (w.map fun l => (!l.1, l.2)).reverse
theorem winv_winv (w : List (Lt G)) : winv (winv w) = w := by
  unfold winv
  rw [List.map_reverse, List.reverse_reverse, List.map_map]
  simp [Function.comp_def]
theorem winv_append (u v : List (Lt G)) : winv (u ++ v) = winv v ++ winv u := by simp [winv]
theorem Wq.inv_right (hne : g.top ≠ g.one) (w : List (Lt G)) : g.Wq (w ++ winv w) [] := by
  induction w with
  | nil => exact Wq.refl g []
  | cons l w ih =>
    intro x
    have e : (l :: w) ++ winv (l :: w) = l :: ((w ++ winv w) ++ [(!l.1, l.2)]) := by simp [winv]
    rw [e, stps_cons, g.stps_append]
    rw [g.NF_stps_congr (ih (g.stp x l)) [(!l.1, l.2)]]
    exact g.NF_cancel hne x l.1 l.2
theorem Wq.inv_left (hne : g.top ≠ g.one) (w : List (Lt G)) : g.Wq (winv w ++ w) [] := by
  have := Wq.inv_right g hne (winv w)
  rwa [winv_winv] at this
theorem Wq.inv (hne : g.top ≠ g.one) {w w' : List (Lt G)} (h : g.Wq w w') : g.Wq (winv w) (winv w') := by
  have h1 : g.Wq (winv w ++ (w' ++ winv w')) (winv w ++ []) := Wq.app g (Wq.refl g _) (Wq.inv_right g hne w')
  have h2 : g.Wq (winv w ++ (w' ++ winv w')) (winv w ++ (w ++ winv w')) := Wq.app g (Wq.refl g _) (Wq.app g (Wq.symm g h) (Wq.refl g _))
  have h3 : g.Wq (winv w ++ w ++ winv w') ([] ++ winv w') := Wq.app g (Wq.inv_left g hne w) (Wq.refl g _)
  rw [List.append_nil] at h1
  rw [List.append_assoc, List.nil_append] at h3
  exact Wq.trans g (Wq.symm g h1) (Wq.trans g h2 h3)
/-- positive letters -/
def wpos (l : List G) : List (Lt G) := l.map fun s => (true, s)
theorem stps_wpos (x : St G) (l : List G) : g.stps x (wpos l) = (x.1, x.2 ++ l) := by
  induction l generalizing x with
  | nil => simp [wpos, stps_nil]
  | cons s l ih =>
    show g.stps (g.stp x (true, s)) (wpos l) = _
    rw [ih, stp_pos]; simp
theorem Wq.pos {l l' : List G} (h : g.Eqv l l') : g.Wq (wpos l) (wpos l') := fun x => by
  rw [g.stps_wpos, g.stps_wpos]
  exact g.NF_eqv (g.eqv_app (g.eqv_refl _) h) _
theorem NF_raw_iff (hne : g.top ≠ g.one) (a b : List (Lt G)) : g.NF (g.raw (a ++ winv b)) = (0, []) ↔ g.NF (g.raw a) = g.NF (g.raw b) := by
  constructor
  · intro h
    have h1 : g.Wq (a ++ winv b) [] := Wq.of_raw g (h.trans g.NF_trivial.symm)
    have h2 : g.Wq (a ++ (winv b ++ b)) (a ++ []) := Wq.app g (Wq.refl g a) (Wq.inv_left g hne b)
    have h3 : g.Wq ((a ++ winv b) ++ b) ([] ++ b) := Wq.app g h1 (Wq.refl g b)
    rw [List.append_nil] at h2
    rw [List.append_assoc, List.nil_append] at h3
    exact Wq.raw g (Wq.trans g (Wq.symm g h2) h3)
  · intro h
    have h1 : g.Wq (a ++ winv b) (b ++ winv b) := Wq.app g (Wq.of_raw g h) (Wq.refl g _)
    exact (Wq.raw g (Wq.trans g h1 (Wq.inv_right g hne b))).trans g.NF_trivial

end Gar
end Go.Proofs.YtkgdbobhppmaiaaDoor
