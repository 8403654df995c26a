/- Normal forms in a group with an order in which greatest common beginnings exist: the plain theory of Garside. No program is looked at. -/
import Derived.Test.YtmeccemnmkobbaaRows
namespace Go.Proofs.Ytmeccemnmkobbaa

/-- what the theory needs of the permutations of n things: le s p says that s is a beginning of p -/
structure Gar (G : Type) where
  mul : G → G → G
  one : G
  inv : G → G
  le : G → G → Prop
  top : G
  M : G → G → G
  assoc : ∀ a b c, mul (mul a b) c = mul a (mul b c)
  one_mul : ∀ a, mul one a = a
  mul_one : ∀ a, mul a one = a
  inv_mul : ∀ a, mul (inv a) a = one
  mul_inv : ∀ a, mul a (inv a) = one
  le_refl : ∀ a, le a a
  le_trans : ∀ a b c, le a b → le b c → le a c
  le_antisymm : ∀ a b, le a b → le b a → a = b
  one_le : ∀ a, le one a
  le_top : ∀ a, le a top
  shift : ∀ s t u, (le s (mul s t) ∧ le (mul s t) (mul (mul s t) u)) ↔ (le t (mul t u) ∧ le s (mul s (mul t u)))
  M_le : ∀ s x, le (M s x) x
  M_red : ∀ s x, le s (mul s (M s x))
  M_max : ∀ s x t, le t x → le s (mul s t) → le t (M s x)
  top_top : mul top top = one

set_option linter.unusedSectionVars false
namespace Gar
variable {G : Type} [DecidableEq G] (g : Gar G)

def red (s t : G) : Prop := g.le s (g.mul s t)
/-- the greatest simple beginning of s x -/
def hd (s x : G) : G := g.mul s (g.M s x)
/-- what is left of x -/
def rm (s x : G) : G := g.mul (g.inv (g.M s x)) x

theorem cancel (a b : G) : g.mul (g.inv a) (g.mul a b) = b := by rw [← g.assoc, g.inv_mul, g.one_mul]
theorem cancel' (a b : G) : g.mul a (g.mul (g.inv a) b) = b := by rw [← g.assoc, g.mul_inv, g.one_mul]
theorem mul_left {a b c : G} (h : g.mul a b = g.mul a c) : b = c := by
  have := congrArg (g.mul (g.inv a)) h
  rwa [g.cancel, g.cancel] at this
theorem le_one {a : G} (h : g.le a g.one) : a = g.one := g.le_antisymm _ _ h (g.one_le a)
theorem red_one (s : G) : g.red s g.one := by unfold red; rw [g.mul_one]; exact g.le_refl s
theorem one_red (t : G) : g.red g.one t := by unfold red; exact g.one_le _

theorem M_rm (s x : G) : g.mul (g.M s x) (g.rm s x) = x := g.cancel' _ _
theorem red_M (s x : G) : g.red s (g.M s x) := g.M_red s x
theorem red_M_rm (s x : G) : g.red (g.M s x) (g.rm s x) := by unfold red; rw [g.M_rm]; exact g.M_le s x

/-- quotients on the left -/
theorem quot {a b x : G} (h1 : g.le a b) (h2 : g.le b x) : g.le (g.mul (g.inv a) b) (g.mul (g.inv a) x) := by
  have h := (g.shift a (g.mul (g.inv a) b) (g.mul (g.inv b) x)).1 ⟨by rw [g.cancel']; exact h1, by rw [g.cancel', g.cancel']; exact h2⟩
  have e : g.mul (g.mul (g.inv a) b) (g.mul (g.inv b) x) = g.mul (g.inv a) x := by rw [g.assoc, g.cancel']
  rw [e] at h; exact h.1
/-- products on the left -/
theorem prod {a b x : G} (h1 : g.le b x) (h2 : g.red a x) : g.red a b ∧ g.le (g.mul a b) (g.mul a x) := by
  have h := (g.shift a b (g.mul (g.inv b) x)).2 ⟨by rw [g.cancel']; exact h1, by rw [g.cancel']; exact h2⟩
  rw [g.assoc, g.cancel'] at h
  exact ⟨h.1, h.2⟩

theorem key {s s' : G} (h : g.red s s') (x : G) : g.M s (g.mul s' (g.M s' x)) = g.mul s' (g.M (g.mul s s') x) := by
  -- m ≤ m'
  have hss : g.red (g.mul s s') (g.M (g.mul s s') x) := g.red_M _ _
  have hsh := (g.shift s s' (g.M (g.mul s s') x)).1 ⟨h, hss⟩
  have hm : g.le (g.M (g.mul s s') x) (g.M s' x) := g.M_max _ _ _ (g.M_le _ _) hsh.1
  apply g.le_antisymm
  · have hN : g.le s' (g.M s (g.mul s' (g.M s' x))) := g.M_max _ _ _ (g.red_M s' x) h
    have hNle := g.M_le s (g.mul s' (g.M s' x))
    have hNred := g.red_M s (g.mul s' (g.M s' x))
    generalize g.M s (g.mul s' (g.M s' x)) = N at *
    have hu := g.quot hN hNle
    rw [g.cancel] at hu
    have eN : N = g.mul s' (g.mul (g.inv s') N) := (g.cancel' s' N).symm
    generalize g.mul (g.inv s') N = u at *
    subst eN
    have hux : g.le u x := g.le_trans _ _ _ hu (g.M_le _ _)
    have h2 := (g.shift s s' u).2 ⟨hN, hNred⟩
    have hum : g.le u (g.M (g.mul s s') x) := g.M_max _ _ _ hux h2.2
    exact (g.prod hum hsh.1).2
  · exact g.M_max _ _ _ (g.prod hm (g.red_M s' x)).2 hsh.2

theorem hd_hd {s s' : G} (h : g.red s s') (x : G) : g.hd s (g.hd s' x) = g.hd (g.mul s s') x := by
  unfold hd; rw [g.key h, g.assoc]

theorem M_self {s s' : G} (h : g.red s s') : g.M s s' = s' := g.le_antisymm _ _ (g.M_le _ _) (g.M_max _ _ _ (g.le_refl _) h)
theorem M_one_left (x : G) : g.M g.one x = x := g.M_self (g.one_red x)

/-- s in front of a list of simple elements -/
def mult : G → List G → List G
  | s, [] => if s = g.one then [] else [s]
  | s, x :: L => g.hd s x :: mult (g.rm s x) L

theorem mult_one (L : List G) : g.mult g.one L = L := by
  induction L with
  | nil => simp [mult]
  | cons x L ih =>
    have h1 : g.hd g.one x = x := by unfold hd; rw [g.M_one_left, g.one_mul]
    have h2 : g.rm g.one x = g.one := by unfold rm; rw [g.M_one_left, g.inv_mul]
    rw [mult, h1, h2, ih]

theorem mult_mult {s s' : G} (h : g.red s s') (L : List G) : g.mult s (g.mult s' L) = g.mult (g.mul s s') L := by
  induction L generalizing s s' with
  | nil =>
    by_cases e : s' = g.one
    · subst e; simp [mult, g.mul_one]
    · have h1 : g.hd s s' = g.mul s s' := by unfold hd; rw [g.M_self h]
      have h2 : g.rm s s' = g.one := by unfold rm; rw [g.M_self h, g.inv_mul]
      have h3 : g.mul s s' ≠ g.one := by
        intro e1
        have hs : s = g.one := g.le_one (by unfold red at h; rw [e1] at h; exact h)
        rw [hs, g.one_mul] at e1; exact e e1
      simp [mult, e, h1, h2, h3]
  | cons x L ih =>
    have hmm : g.le (g.M (g.mul s s') x) (g.M s' x) := by
      have hsh := (g.shift s s' (g.M (g.mul s s') x)).1 ⟨h, g.red_M _ _⟩
      exact g.M_max _ _ _ (g.M_le _ _) hsh.1
    have e1 : g.rm s (g.hd s' x) = g.mul (g.inv (g.M (g.mul s s') x)) (g.M s' x) := by
      unfold rm hd
      rw [g.key h]
      apply g.mul_left (a := g.mul s' (g.M (g.mul s s') x))
      rw [g.cancel', g.assoc, g.cancel']
    have e2 : g.mul (g.rm s (g.hd s' x)) (g.rm s' x) = g.rm (g.mul s s') x := by
      rw [e1]; unfold rm
      rw [g.assoc, g.cancel']
    have e3 : g.red (g.rm s (g.hd s' x)) (g.rm s' x) := by
      unfold red
      rw [e2, e1]
      exact g.quot hmm (g.M_le _ _)
    rw [mult, mult, mult, g.hd_hd h, ih e3, e2]

/-- every element has passed all letters that it can to the one before it -/
def Stab : List G → Prop
  | [] => True
  | x :: L => x ≠ g.one ∧ g.mult x L = x :: L ∧ Stab L

theorem hd_ne {s x : G} (hx : x ≠ g.one) : g.hd s x ≠ g.one := by
  intro e
  have hs : s = g.one := g.le_one (by have := g.red_M s x; unfold red at this; unfold hd at e; rw [e] at this; exact this)
  subst hs
  unfold hd at e; rw [g.M_one_left, g.one_mul] at e; exact hx e

theorem mult_stab (s : G) (L : List G) (h : g.Stab L) : g.Stab (g.mult s L) := by
  induction L generalizing s with
  | nil =>
    by_cases e : s = g.one
    · simp [mult, e, Stab]
    · simp [mult, e, Stab]
  | cons x L ih =>
    obtain ⟨hx, hxL, hL⟩ := h
    refine ⟨g.hd_ne hx, ?_, ih _ hL⟩
    have e : g.hd s x = g.mul s (g.M s x) := rfl
    rw [e, ← g.mult_mult (g.red_M s x), g.mult_mult (g.red_M_rm s x), g.M_rm, hxL]
    rfl

/-- the normal form of a list of simple elements -/
def nf (w : List G) : List G := w.foldr g.mult []
theorem nf_stab (w : List G) : g.Stab (g.nf w) := by
  induction w with
  | nil => trivial
  | cons s w ih => exact g.mult_stab s _ ih
theorem nf_of_stab {L : List G} (h : g.Stab L) : g.nf L = L := by
  induction L with
  | nil => rfl
  | cons x L ih => show g.mult x (g.nf L) = _; rw [ih h.2.2, h.2.1]
/-- neighbours are left-weighted -/
def Lw : List G → Prop
  | [] => True
  | [x] => x ≠ g.one
  | x :: y :: L => x ≠ g.one ∧ g.M x y = g.one ∧ Lw (y :: L)
theorem stab_of_lw : ∀ {L : List G}, g.Lw L → g.Stab L
  | [], _ => trivial
  | [x], h => ⟨h, by simp [mult, show x ≠ g.one from h], trivial⟩
  | x :: y :: L, ⟨hx, hM, h⟩ => by
    have ih := stab_of_lw h
    refine ⟨hx, ?_, ih⟩
    have h1 : g.hd x y = x := by unfold hd; rw [hM, g.mul_one]
    have h2 : g.rm x y = y := by
      unfold rm; rw [hM]
      apply g.mul_left (a := g.one)
      rw [g.cancel', g.one_mul]
    rw [mult, h1, h2, ih.2.1]

/-! the half twist -/
theorem M_top (x : G) : g.M g.top x = g.one := by
  have h := g.red_M g.top x
  have e : g.mul g.top (g.M g.top x) = g.top := g.le_antisymm _ _ (g.le_top _) h
  exact g.mul_left (a := g.top) (by rw [e, g.mul_one])
theorem hd_top (x : G) : g.hd g.top x = g.top := by unfold hd; rw [g.M_top, g.mul_one]
theorem rm_top (x : G) : g.rm g.top x = x := by
  unfold rm; rw [g.M_top]
  apply g.mul_left (a := g.one); rw [g.cancel', g.one_mul]
theorem mult_top {L : List G} (h : g.Stab L) (hne : g.top ≠ g.one) : g.mult g.top L = g.top :: L := by
  cases L with
  | nil => simp [mult, hne]
  | cons x L => rw [mult, g.hd_top, g.rm_top, h.2.1]
/-- seen from the other side -/
def tau (x : G) : G := g.mul g.top (g.mul x g.top)
theorem tau_tau (x : G) : g.tau (g.tau x) = x := by
  unfold tau
  rw [g.assoc, g.assoc, g.top_top, g.mul_one, ← g.assoc, g.top_top, g.one_mul]
theorem tau_mul (x y : G) : g.tau (g.mul x y) = g.mul (g.tau x) (g.tau y) := by
  unfold tau
  rw [g.assoc g.top, g.assoc x g.top, ← g.assoc g.top g.top, g.top_top, g.one_mul, g.assoc]
theorem tau_top : g.tau g.top = g.top := by unfold tau; rw [g.top_top, g.mul_one]
theorem tau_one : g.tau g.one = g.one := by unfold tau; rw [g.one_mul, g.top_top]
theorem top_inv : g.inv g.top = g.top := g.mul_left (a := g.top) (by rw [g.mul_inv, g.top_top])
theorem hd_at_top (s : G) : g.hd s g.top = g.top := by
  apply g.le_antisymm _ _ (g.le_top _)
  have h1 : g.red s (g.mul (g.inv s) g.top) := by unfold red; rw [g.cancel']; exact g.le_top s
  have h2 := g.M_max s g.top _ (g.le_top _) h1
  have h3 := (g.prod h2 (g.red_M s g.top)).2
  rw [g.cancel'] at h3
  exact h3
theorem rm_at_top (s : G) : g.rm s g.top = g.tau s := by
  have h := g.hd_at_top s
  unfold hd at h
  unfold rm tau
  have e : g.M s g.top = g.mul (g.inv s) g.top := g.mul_left (a := s) (by rw [h, g.cancel'])
  rw [e]
  apply g.mul_left (a := g.mul (g.inv s) g.top)
  rw [g.cancel', g.assoc, ← g.assoc g.top g.top, g.top_top, g.one_mul, g.cancel]
theorem mult_at_top (s : G) (L : List G) : g.mult s (g.top :: L) = g.top :: g.mult (g.tau s) L := by
  rw [mult, g.hd_at_top, g.rm_at_top]

/-! powers of the half twist in front -/
/-- seen from the other side as often as p says -/
def tw (p : Int) (x : G) : G := if p % 2 = 0 then x else g.tau x
theorem tw_tw (p q : Int) (x : G) : g.tw p (g.tw q x) = g.tw (p + q) x := by
  unfold tw
  by_cases h1 : p % 2 = 0 <;> by_cases h2 : q % 2 = 0
  · rw [if_pos h1, if_pos h2, if_pos (by omega)]
  · rw [if_pos h1, if_neg h2, if_neg (by omega)]
  · rw [if_neg h1, if_pos h2, if_neg (by omega)]
  · rw [if_neg h1, if_neg h2, if_pos (by omega), g.tau_tau]
theorem tw_one_arg (x : G) : g.tw 1 x = g.tau x := by unfold tw; rw [if_neg (by decide)]
theorem tw_mul (p : Int) (x y : G) : g.tw p (g.mul x y) = g.mul (g.tw p x) (g.tw p y) := by
  unfold tw; split
  · rfl
  · exact g.tau_mul x y
theorem tw_top (p : Int) : g.tw p g.top = g.top := by unfold tw; split; rfl; exact g.tau_top

/-- a state: a power of the half twist and a list behind it -/
abbrev St (G : Type) := Int × List G
/-- a simple element in front -/
def act (s : G) (x : St G) : St G := (x.1, g.mult (g.tw x.1 s) x.2)
/-- a power of the half twist in front -/
def up (k : Int) (x : St G) : St G := (x.1 + k, x.2)
/-- half twists at the beginning of the list are taken to the power -/
def normL : List G → Int → St G
  | [], p => (p, [])
  | x :: L, p => if x = g.top then normL L (p + 1) else (p, x :: L)
def norm (x : St G) : St G := g.normL x.2 x.1
theorem norm_nil (p : Int) : g.norm (p, []) = (p, []) := rfl
theorem norm_top (p : Int) (L : List G) : g.norm (p, g.top :: L) = g.norm (p + 1, L) := by
  show (if g.top = g.top then _ else _) = _
  rw [if_pos rfl]; rfl
theorem norm_cons {x : G} (h : x ≠ g.top) (p : Int) (L : List G) : g.norm (p, x :: L) = (p, x :: L) := by
  show (if x = g.top then _ else _) = _
  rw [if_neg h]
theorem norm_up (k : Int) (p : Int) (L : List G) : g.norm (up k (p, L)) = up k (g.norm (p, L)) := by
  induction L generalizing p with
  | nil => rfl
  | cons x L ih =>
    by_cases e : x = g.top
    · subst e
      have := ih (p + 1)
      simp only [up] at this ⊢
      rw [norm_top, norm_top, ← this]
      congr 2; omega
    · show g.norm (p + k, x :: L) = up k (g.norm (p, x :: L))
      rw [g.norm_cons e, g.norm_cons e]; rfl
/-- what is done in front does not ask whether the state is normed -/
theorem norm_act (s : G) (p : Int) (L : List G) : g.norm (g.act s (g.norm (p, L))) = g.norm (g.act s (p, L)) := by
  induction L generalizing p with
  | nil => rfl
  | cons x L ih =>
    by_cases e : x = g.top
    · subst e
      rw [norm_top, ih (p + 1)]
      unfold act
      simp only
      rw [g.mult_at_top, norm_top]
      congr 3
      rw [← g.tw_one_arg, g.tw_tw]; congr 1; omega
    · rw [g.norm_cons e]
theorem norm_norm (x : St G) : g.norm (g.norm x) = g.norm x := by
  obtain ⟨p, L⟩ := x
  induction L generalizing p with
  | nil => rfl
  | cons x L ih =>
    by_cases e : x = g.top
    · subst e; rw [norm_top, ih]
    · rw [g.norm_cons e, g.norm_cons e]
theorem norm_of_ne {p : Int} {L : List G} (h : L.head? ≠ some g.top) : g.norm (p, L) = (p, L) := by
  cases L with
  | nil => rfl
  | cons x L => simp only [List.head?_cons, ne_eq, Option.some.injEq] at h; exact g.norm_cons h p L
theorem norm_stab {p : Int} {L : List G} (h : g.Stab L) : g.Stab (g.norm (p, L)).2 := by
  induction L generalizing p with
  | nil => trivial
  | cons x L ih =>
    by_cases e : x = g.top
    · subst e; rw [norm_top]; exact ih h.2.2
    · rw [g.norm_cons e]; exact h

end Gar
end Go.Proofs.Ytmeccemnmkobbaa
