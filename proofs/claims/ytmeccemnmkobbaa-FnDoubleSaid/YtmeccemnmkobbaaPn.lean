/- Left-weighted lists without ones and half twists; words of letters as lists of simple elements; permutation braids. Plain. -/
import Derived.Test.YtmeccemnmkobbaaPi
namespace Go.Proofs.Ytmeccemnmkobbaa
namespace Gar
set_option linter.unusedSectionVars false
variable {G : Type} [DecidableEq G] (g : Gar G)
/-- neither one nor the half twist -/
def mid (x : G) : Bool := decide (x ≠ g.one) && decide (x ≠ g.top)
/-- half twists that are not ones -/
def tops : List G → Int
  | [] => 0
  | x :: L => if x ≠ g.one ∧ x = g.top then tops L + 1 else tops L
theorem tops_zero {L : List G} (h : ∀ x ∈ L, x ≠ g.top) : g.tops L = 0 := by
  induction L with
  | nil => rfl
  | cons x L ih =>
    rw [tops, if_neg (fun e => h x (by simp) e.2)]
    exact ih fun y hy => h y (by simp [hy])
theorem NF_wt {L : List G} (h : g.Wt L) (p : Int) : g.NF (p, L) = (p + g.tops L, L.filter g.mid) := by
  unfold NF
  simp only
  rw [g.nf_wt h]
  induction L generalizing p with
  | nil => simp [norm_nil, tops]
  | cons x L ih =>
    have ih' := ih (g.wt_tail h)
    by_cases e : x = g.one
    · subst e
      rw [List.filter_cons_of_neg (by simp), List.filter_cons_of_neg (by simp [mid]), tops, if_neg (by simp), ih']
    · rw [List.filter_cons_of_pos (by simpa using e)]
      by_cases e2 : x = g.top
      · subst e2
        rw [norm_top, ih', List.filter_cons_of_neg (by simp [mid]), tops, if_pos ⟨e, rfl⟩]
        congr 1; omega
      · have hn := g.wt_no_top e2 h
        rw [g.norm_cons e2, g.tops_zero hn, List.filter_cons_of_pos (by simp [mid, e, e2])]
        congr 1
        · omega
        · congr 1
          apply List.filter_congr
          intro y hy
          have := hn y (by simp [hy])
          simp [mid, this]
theorem NF_cons_top (hne : g.top ≠ g.one) (p : Int) (L : List G) : g.NF (p, g.top :: L) = g.NF (p + 1, L) := by
  show g.norm (p, g.mult g.top (g.nf L)) = _
  rw [g.mult_top (g.nf_stab L) hne, norm_top]; rfl
theorem NF_end_one (p : Int) (L : List G) : g.NF (p, L ++ [g.one]) = g.NF (p, L) := by
  have := g.NF_eqv (g.eqv_app (g.eqv_refl L) g.eqv_one) p
  rwa [List.append_nil] at this
theorem wt_init {L M : List G} (h : g.Wt (L ++ M)) : g.Wt L := by
  induction L with
  | nil => trivial
  | cons x L ih =>
    cases L with
    | nil => trivial
    | cons y L => exact ⟨h.1, ih h.2⟩
theorem wt_last_one {L : List G} (h : g.Wt L) (h1 : g.one ∈ L) : L.getLast? = some g.one := by
  induction L with
  | nil => simp at h1
  | cons x L ih =>
    cases L with
    | nil => simp at h1; simp [h1]
    | cons y L =>
      rw [List.getLast?_cons_cons]
      apply ih h.2
      rcases List.mem_cons.1 h1 with e | e
      · have := h.1
        rw [← e, g.M_one_left] at this
        rw [this]; simp
      · exact e
/-- nothing is left to be taken out -/
theorem NF_done {L : List G} (h : g.Wt L) (h1 : L.head? ≠ some g.top) (h2 : L.getLast? ≠ some g.one) (p : Int) : g.NF (p, L) = (p, L) := by
  have hone : ∀ x ∈ L, x ≠ g.one := by
    rintro x hx rfl
    exact h2 (g.wt_last_one h hx)
  have htop : ∀ x ∈ L, x ≠ g.top := by
    cases L with
    | nil => simp
    | cons x L => exact g.wt_no_top (fun e => h1 (by rw [e]; rfl)) h
  rw [g.NF_wt h, g.tops_zero htop]
  congr 1
  · omega
  · rw [List.filter_eq_self]
    intro x hx
    simp [mid, hone x hx, htop x hx]
/-- a normal form: its neighbours are left-weighted, and neither ones nor half twists stand in it -/
def Nrm (L : List G) : Prop := g.Wt L ∧ ∀ x ∈ L, x ≠ g.one ∧ x ≠ g.top
theorem NF_nrm {L : List G} (h : g.Nrm L) (p : Int) : g.NF (p, L) = (p, L) := by
  rw [g.NF_wt h.1, g.tops_zero fun x hx => (h.2 x hx).2]
  congr 1
  · omega
  · rw [List.filter_eq_self]
    intro x hx
    simp [mid, (h.2 x hx).1, (h.2 x hx).2]
theorem nrm_NF (x : St G) : g.Nrm (g.NF x).2 := by
  refine ⟨g.wt_of_stab (g.NF_stab x), ?_⟩
  have hs := g.NF_stab x
  have h2 := g.NF_NF x
  have h1 : ∀ y ∈ (g.NF x).2, y ≠ g.one := by
    intro y hy
    generalize (g.NF x).2 = L at *
    clear h2
    induction L with
    | nil => simp at hy
    | cons z L ih =>
      rcases List.mem_cons.1 hy with rfl | hy
      · exact hs.1
      · exact ih hs.2.2 hy
  intro y hy
  refine ⟨h1 y hy, ?_⟩
  generalize hx : g.NF x = s at *
  obtain ⟨p, L⟩ := s
  cases L with
  | nil => simp at hy
  | cons z L =>
    have hz : z ≠ g.top := by
      rintro rfl
      have e : g.NF (p, g.top :: L) = g.norm (p, g.top :: L) := by
        show g.norm (p, g.nf _) = _
        rw [g.nf_of_stab hs]
      rw [e, norm_top] at h2
      obtain ⟨j, a, b⟩ := g.norm_split (p + 1) L
      rw [h2] at b
      simp only at b; omega
    exact g.wt_no_top hz (g.wt_of_stab hs) y hy
end Gar

namespace Pm
variable {n : Nat}
theorem top_ne_one (h : 2 ≤ n) : (gar n).top ≠ (gar n).one := by
  intro e
  have : (gar n).top.at' 0 = (gar n).one.at' 0 := by rw [e]
  rw [show (gar n).top = top n from rfl, show (gar n).one = one n from rfl, at_top (by omega), at_one (by omega)] at this
  omega
theorem all_one (h : n < 2) (p : Pm n) : p = one n := ext fun i hi => by
  have := p.lt hi
  rw [at_one hi]; omega
/-- the exchange of a letter, whatever the letter -/
def sgT (n k : Nat) : Pm n := if h : k < n then sg n k h else one n
theorem sgT_eq {k : Nat} (h : k < n) : sgT n k = sg n k h := by unfold sgT; rw [dif_pos h]
end Pm
open Pm

/-- a letter as a simple element, with its sign -/
def ltr (n : Nat) (k : Int) : Gar.Lt (Pm n) := (decide (0 < k), sgT n k.natAbs)
def lts (n : Nat) (w : List Int) : List (Gar.Lt (Pm n)) := w.map (ltr n)
theorem lts_append (n : Nat) (u v : List Int) : lts n (u ++ v) = lts n u ++ lts n v := by simp [lts]
theorem winv_lts (n : Nat) (w : List Int) (h : ∀ k ∈ w, k ≠ 0) : Gar.winv (lts n w) = lts n (w.reverse.map (- ·)) := by
  unfold Gar.winv lts
  rw [← List.map_reverse, ← List.map_reverse, List.map_map, List.map_map]
  apply List.map_congr_left
  intro k hk
  have := h k (by simpa using hk)
  simp only [Function.comp, ltr, Int.natAbs_neg, Prod.mk.injEq, and_true]
  rw [← decide_not, decide_eq_decide]; omega
/-- the normal form of a word -/
def nfW (n : Nat) (w : List Int) : Gar.St (Pm n) := (gar n).NF ((gar n).raw (lts n w))

namespace Pm
variable {n : Nat}
/-- letters one after the other, each put behind, that make up p: no two strands cross twice -/
inductive Wd : List Int → Pm n → Prop
  | nil : Wd [] (one n)
  | cons (k : Nat) (hk : k < n) (h0 : 0 < k) (w : List Int) (q : Pm n) (h : le (sg n k hk) q) (hw : Wd w (mul (sg n k hk) q)) : Wd ((k : Int) :: w) q
theorem Wd.eqv {w : List Int} {p : Pm n} (h : Wd w p) : (gar n).Eqv ((lts n w).map Prod.snd) [p] := by
  induction h with
  | nil => exact (gar n).eqv_symm (gar n).eqv_one
  | cons k hk h0 w q hle hw ih =>
    have e : ((lts n ((k : Int) :: w)).map Prod.snd) = [sg n k hk] ++ (lts n w).map Prod.snd := by
      simp [lts, ltr, sgT_eq hk]
    rw [e]
    refine (gar n).eqv_trans ((gar n).eqv_app ((gar n).eqv_refl _) ih) ?_
    have e2 : mul (sg n k hk) (mul (sg n k hk) q) = q := by rw [← assoc, sg_sg hk, one_mul]
    have h3 : (gar n).red (sg n k hk) (mul (sg n k hk) q) := by
      show le (sg n k hk) (mul (sg n k hk) (mul (sg n k hk) q))
      rw [e2]; exact hle
    have h4 := (gar n).eqv_pair h3
    rw [show (gar n).mul (sg n k hk) (mul (sg n k hk) q) = q from e2] at h4
    exact h4
theorem Wd.pos {w : List Int} {p : Pm n} (h : Wd w p) : ∀ k ∈ w, 0 < k ∧ k < n := by
  induction h with
  | nil => simp
  | cons k hk h0 w q hle hw ih =>
    intro x hx
    rcases List.mem_cons.1 hx with rfl | hx
    · omega
    · exact ih x hx
theorem lts_pos {w : List Int} (h : ∀ k ∈ w, 0 < k) : lts n w = Gar.wpos ((lts n w).map Prod.snd) := by
  unfold lts Gar.wpos
  rw [List.map_map, List.map_map]
  apply List.map_congr_left
  intro k hk
  simp [ltr, h k hk]
theorem Wd.len {w : List Int} {p : Pm n} (h : Wd w p) : (w.length : Int) = ni p := by
  induction h with
  | nil => rw [ni_one]; rfl
  | cons k hk h0 w q hle hw ih =>
    rw [ni_front q hk h0 hle] at ih
    rw [List.length_cons]; omega
/-- a permutation braid behind a word -/
theorem Wd.stps {w : List Int} {p : Pm n} (h : Wd w p) (x : Gar.St (Pm n)) : (gar n).NF ((gar n).stps x (lts n w)) = (gar n).NF (x.1, x.2 ++ [p]) := by
  rw [lts_pos fun k hk => (h.pos k hk).1, (gar n).stps_wpos]
  exact (gar n).NF_eqv ((gar n).eqv_app ((gar n).eqv_refl _) h.eqv) _
end Pm

end Go.Proofs.Ytmeccemnmkobbaa
