/- The permutation at the rank of a permutation is that permutation; its reduced word makes it up. Plain. -/
import Derived.Test.YtmeccemnmkobbaaWpg
import Derived.Test.YtmeccemnmkobbaaDel
import Derived.Test.YtmeccemnmkobbaaApq
import Derived.Test.YtmeccemnmkobbaaPl
import Derived.Test.YtmeccemnmkobbaaRl
import Derived.Test.YtmeccemnmkobbaaWpf
import Derived.Test.YtmeccemnmkobbaaPi
import Derived.Test.YtmeccemnmkobbaaRdf
import Derived.Test.YtmeccemnmkobbaaRwc
namespace Go.Proofs.Ytmeccemnmkobbaa
open Go.RowKit

/-- 1 · 2 · .. · n -/
def fac : Nat → Int
  | 0 => 1
  | n + 1 => fac n * ((n : Int) + 1)
theorem fac_pos (n : Nat) : 1 ≤ fac n := by
  induction n with
  | zero => decide
  | succ n ih =>
    have : 1 * ((n : Int) + 1) ≤ fac n * ((n : Int) + 1) := Int.mul_le_mul_of_nonneg_right ih (by omega)
    rw [fac]; omega
theorem fac_mono {n m : Nat} (h : n ≤ m) : fac n ≤ fac m := by
  induction m with
  | zero => obtain rfl : n = 0 := by omega
            exact Int.le_refl _
  | succ m ih =>
    by_cases e : n = m + 1
    · subst e; exact Int.le_refl _
    · have h1 := ih (by omega)
      have h2 : fac m * 1 ≤ fac m * ((m : Int) + 1) := Int.mul_le_mul_of_nonneg_left (by omega) (by have := fac_pos m; omega)
      rw [fac]; omega
theorem fac_12 {n : Nat} (h : n ≤ 12) : 1 ≤ fac n ∧ fac n ≤ 479001600 := by
  refine ⟨fac_pos n, ?_⟩
  have := fac_mono h
  have e : fac 12 = 479001600 := by decide
  omega

end Go.Proofs.Ytmeccemnmkobbaa

namespace Go.Proofs.Ytmeccemnmkobbaa
open Go.RowKit

/-- 1 · 2 · .. · n, a natural number -/
def facN : Nat → Nat
  | 0 => 1
  | n + 1 => facN n * (n + 1)
theorem fac_N (n : Nat) : fac n = (facN n : Int) := by
  induction n with
  | zero => rfl
  | succ n ih => rw [fac, facN, ih]; simp
theorem facN_pos (n : Nat) : 1 ≤ facN n := by have := fac_pos n; rw [fac_N] at this; omega
/-- the digit of r at place j, of n places -/
def digN (n r j : Nat) : Nat := r / facN (n - 1 - j) % (n - j)
def digL (n r : Nat) : List Int := (List.range n).map fun j => (digN n r j : Int)
@[simp] theorem length_digL (n r : Nat) : (digL n r).length = n := by simp [digL]
theorem nth_digL {n r j : Nat} (h : j < n) : nth (digL n r) j = (digN n r j : Int) := by simp [nth, digL, h]
theorem digN_lt {n r j : Nat} (h : j < n) : digN n r j < n - j := Nat.mod_lt _ (by omega)

/-- what is left behind k picks, and what was picked -/
def restTo (l : List Int) (n r : Nat) : Nat → List Int
  | 0 => l
  | k + 1 => (restTo l n r k).eraseIdx (digN n r k)
def pickTo (l : List Int) (n r : Nat) : Nat → List Int
  | 0 => []
  | k + 1 => pickTo l n r k ++ [nth (restTo l n r k) (digN n r k)]
theorem length_restTo (n r : Nat) {k : Nat} (h : k ≤ n) : (restTo (idn n) n r k).length = n - k := by
  induction k with
  | zero => simp [restTo]
  | succ k ih =>
    have := ih (by omega)
    have hd := digN_lt (n := n) (r := r) (j := k) (by omega)
    rw [restTo, List.length_eraseIdx_of_lt (by omega)]; omega
@[simp] theorem length_pickTo (l : List Int) (n r k : Nat) : (pickTo l n r k).length = k := by
  induction k with
  | zero => rfl
  | succ k ih => simp [pickTo, ih]
/-- the permutation of n things with rank r -/
def atF (n r : Nat) : List Int := pickTo (idn n) n r n
/-- whether there is one -/
def hasRank (n r : Int) : Bool := inB n 0 12 && inB r 0 (fac n.toNat - 1)
theorem hasRank_long {n r : Int} (h : inB n 0 12 = false) : hasRank n r = false := by simp [hasRank, h]

theorem div_step (r i : Nat) : r / facN (i + 1) = r / facN i / (i + 1) := by rw [facN, Nat.div_div_eq_div_mul]
theorem digN_spec {n r j : Nat} (_h : j < n) : r % facN (n - j) / facN (n - 1 - j) = digN n r j := by
  have e : n - j = (n - 1 - j) + 1 := by omega
  unfold digN
  rw [e, facN, Nat.mod_mul_right_div_self]
theorem mod_step {n r j : Nat} (_h : j < n) : r % facN (n - j) % facN (n - 1 - j) = r % facN (n - 1 - j) := by
  have e : n - j = (n - 1 - j) + 1 := by omega
  rw [e, facN, Nat.mod_mul_right_mod]

/-- the digits are written from behind -/
def digTo (n r i : Nat) : List Int := (List.range n).map fun j => if n ≤ i + j then (digN n r j : Int) else 0
@[simp] theorem length_digTo (n r i : Nat) : (digTo n r i).length = n := by simp [digTo]
theorem digTo_zero (n r : Nat) : digTo n r 0 = List.replicate n 0 := by
  apply List.ext_getElem (by simp)
  intro j h1 h2
  simp at h1
  simp [digTo]; omega
theorem digTo_all (n r : Nat) : digTo n r n = digL n r := by simp [digTo, digL]
theorem digTo_step {n r i : Nat} (h : i < n) : (digTo n r i).set (n - 1 - i) ((r / facN i % (i + 1) : Nat) : Int) = digTo n r (i + 1) := by
  apply List.ext_getElem (by simp)
  intro j h1 h2
  simp at h1
  rw [List.getElem_set]
  simp only [digTo, List.getElem_map, List.getElem_range]
  by_cases e : n - 1 - i = j
  · subst e
    have e1 : n - 1 - (n - 1 - i) = i := by omega
    have e2 : n - (n - 1 - i) = i + 1 := by omega
    rw [if_pos rfl, if_pos (by omega), digN, e1, e2]
  · rw [if_neg e]
    by_cases e1 : n ≤ i + j
    · rw [if_pos e1, if_pos (by omega)]
    · rw [if_neg e1, if_neg (by omega)]

end Go.Proofs.Ytmeccemnmkobbaa

namespace Go.Proofs.Ytmeccemnmkobbaa
open Go.RowKit

/-- how many behind place i are less -/
def lessAt (l : List Int) (i : Nat) : Int := cnt (invRow2 l i) (l.length - i)
/-- the number of permutations that are before l -/
def rankF (l : List Int) : Int := sumTo (fun i => lessAt l i * fac (l.length - 1 - i)) l.length
/-- the same, by Horner's rule, after k places -/
def hornTo (l : List Int) : Nat → Int
  | 0 => 0
  | k + 1 => hornTo l k * ((l.length : Int) - k) + lessAt l k

theorem invRow2_zero (l : List Int) (i : Nat) : invRow2 l i 0 = false := by simp [invRow2]
theorem cnt_one (l : List Int) (i : Nat) : cnt (invRow2 l i) 1 = 0 := by rw [cnt_no (invRow2_zero l i)]; rfl
theorem lessAt_bd (l : List Int) (i : Nat) (h12 : l.length ≤ 12) : 0 ≤ lessAt l i ∧ lessAt l i ≤ 12 := cnt_bd _ (by omega)
theorem term_bd (l : List Int) (i : Nat) (h12 : l.length ≤ 12) : 0 ≤ lessAt l i * fac (l.length - 1 - i) ∧ lessAt l i * fac (l.length - 1 - i) ≤ 5748019200 := by
  obtain ⟨a0, a1⟩ := lessAt_bd l i h12
  obtain ⟨f0, f1⟩ := fac_12 (n := l.length - 1 - i) (by omega)
  refine ⟨Int.mul_nonneg a0 (by omega), ?_⟩
  have h1 := Int.mul_le_mul_of_nonneg_right a1 (show 0 ≤ fac (l.length - 1 - i) by omega)
  omega
theorem rankTo_bd (l : List Int) {k : Nat} (h12 : l.length ≤ 12) (hk : k ≤ l.length) : 0 ≤ sumTo (fun i => lessAt l i * fac (l.length - 1 - i)) k ∧ sumTo (fun i => lessAt l i * fac (l.length - 1 - i)) k ≤ 68976230400 := by
  have h1 := sumTo_nonneg (f := fun i => lessAt l i * fac (l.length - 1 - i)) (k := k) (fun i _ => (term_bd l i h12).1)
  have h2 := sumTo_le (f := fun i => lessAt l i * fac (l.length - 1 - i)) (k := k) (b := 5748019200) (fun i _ => (term_bd l i h12).2)
  omega
theorem horn_eq (l : List Int) (k : Nat) (hk : k ≤ l.length) : sumTo (fun i => lessAt l i * fac (l.length - 1 - i)) k = hornTo l k * fac (l.length - k) := by
  induction k with
  | zero => simp [sumTo, hornTo]
  | succ k ih =>
    rw [sumTo_succ, ih (by omega), hornTo]
    have e1 : l.length - k = (l.length - (k + 1)) + 1 := by omega
    have e2 : l.length - 1 - k = l.length - (k + 1) := by omega
    rw [e1, fac, e2, Int.add_mul]
    have e3 : (((l.length - (k + 1) : Nat)) : Int) + 1 = (l.length : Int) - k := by omega
    rw [e3, Int.mul_assoc, Int.mul_comm (fac _) _]
theorem horn_nonneg (l : List Int) (h12 : l.length ≤ 12) (k : Nat) (hk : k ≤ l.length) : 0 ≤ hornTo l k := by
  induction k with
  | zero => exact Int.le_refl _
  | succ k ih =>
    rw [hornTo]
    have := Int.mul_nonneg (ih (by omega)) (show 0 ≤ (l.length : Int) - k by omega)
    have := (lessAt_bd l k h12).1
    omega
theorem horn_bd (l : List Int) {k : Nat} (h12 : l.length ≤ 12) (hk : k < l.length) : 0 ≤ hornTo l k ∧ hornTo l k ≤ 68976230400 ∧ 0 ≤ hornTo l k * ((l.length : Int) - k) ∧ hornTo l k * ((l.length : Int) - k) ≤ 68976230400 := by
  have h0 := horn_nonneg l h12 k (by omega)
  have h1 := (rankTo_bd l h12 (k := k) (by omega)).2
  rw [horn_eq l k (by omega)] at h1
  have e1 : l.length - k = (l.length - k - 1) + 1 := by omega
  have f0 := fac_pos (l.length - k - 1)
  have e3 : (((l.length - k - 1 : Nat)) : Int) + 1 = (l.length : Int) - k := by omega
  rw [e1, fac, e3] at h1
  have h2 : hornTo l k * (1 * ((l.length : Int) - k)) ≤ hornTo l k * (fac (l.length - k - 1) * ((l.length : Int) - k)) :=
    Int.mul_le_mul_of_nonneg_left (Int.mul_le_mul_of_nonneg_right f0 (by omega)) h0
  rw [Int.one_mul] at h2
  have h3 : hornTo l k * 1 ≤ hornTo l k * ((l.length : Int) - k) := Int.mul_le_mul_of_nonneg_left (by omega) h0
  have h4 := Int.mul_nonneg h0 (show 0 ≤ (l.length : Int) - k by omega)
  omega
theorem rankF_horn (l : List Int) : rankF l = hornTo l l.length := by
  unfold rankF
  rw [horn_eq l l.length (Nat.le_refl _)]; simp [fac]

end Go.Proofs.Ytmeccemnmkobbaa

namespace Go.Proofs.Ytmeccemnmkobbaa
open Pm

/-- the exchanges of a word on n things -/
def Wgo (n : Nat) (w : List Int) : Prop := ∀ i, i < w.length → 0 ≤ nth w i ∧ nth w i + 1 < n
theorem Wgo.tail {n : Nat} {k : Int} {w : List Int} (h : Wgo n (k :: w)) : Wgo n w := fun i hi => by
  have := h (i + 1) (by simpa using hi)
  simpa [nth] using this
theorem Wgo.head {n : Nat} {k : Int} {w : List Int} (h : Wgo n (k :: w)) : 0 ≤ k ∧ k + 1 < n := by
  have := h 0 (by simp)
  simpa [nth] using this
theorem exch_cons (l : List Int) (k : Int) (w : List Int) : exch l (k :: w) = exch (swapAt l k.toNat) w := rfl
theorem exch_app (l u v : List Int) : exch l (u ++ v) = exch (exch l u) v := by unfold exch; rw [List.foldl_append]
theorem exch_mul {n : Nat} (w : List Int) (h : Wgo n w) : ∃ s : Pm n, ∀ p : Pm n, exch p.1 w = (mul s p).1 := by
  induction w with
  | nil => exact ⟨one n, fun p => by rw [one_mul]; rfl⟩
  | cons k w ih =>
    obtain ⟨s, hs⟩ := ih h.tail
    obtain ⟨h0, h1⟩ := h.head
    obtain ⟨j, rfl⟩ := Int.eq_ofNat_of_zero_le h0
    have hj : j + 1 < n := by omega
    refine ⟨mul s (sg n (j + 1) hj), fun p => ?_⟩
    have e := front_val p hj (by omega)
    rw [Nat.add_sub_cancel] at e
    rw [exch_cons, Int.toNat_natCast, e, hs, assoc]
theorem word_comp {n : Nat} {u v : List Int} (hu : Wgo n u) (hv : Wgo n v) : wordF n (u ++ v) = compF (wordF n u) (wordF n v) := by
  obtain ⟨s, hs⟩ := exch_mul u hu
  obtain ⟨t, ht⟩ := exch_mul v hv
  unfold wordF
  rw [exch_app, idn_val, hs, ht, ht, inv_val, inv_val, inv_val, comp_val, mul_one, mul_one, mul_inv_rev]
theorem word_pm {n : Nat} {u : List Int} (hu : Wgo n u) : ∃ A : Pm n, wordF n u = A.1 := by
  obtain ⟨s, hs⟩ := exch_mul u hu
  exact ⟨inv s, by unfold wordF; rw [idn_val, hs, mul_one, inv_val]⟩
theorem Wgo.app {n : Nat} {u v : List Int} (hu : Wgo n u) (hv : Wgo n v) : Wgo n (u ++ v) := fun i hi => by
  by_cases h : i < u.length
  · have e : nth (u ++ v) i = nth u i := by simp [nth, List.getElem?_append_left h]
    rw [e]; exact hu i h
  · have e : nth (u ++ v) i = nth v (i - u.length) := by simp [nth, List.getElem?_append_right (by omega : u.length ≤ i)]
    rw [e]; exact hv _ (by simp at hi; omega)

end Go.Proofs.Ytmeccemnmkobbaa

namespace Go.Proofs.Ytmeccemnmkobbaa
open Pm

/-- one place of a sum -/
theorem sum_pick (g : Nat → Bool) {n a : Nat} (h : a < n) : sumTo (fun v => if decide (a = v) && g v then 1 else 0) n = if g a then 1 else 0 := by
  induction n with
  | zero => omega
  | succ n ih =>
    rw [sumTo_succ]
    by_cases e : a = n
    · subst e
      have : sumTo (fun v => if decide (a = v) && g v then (1 : Int) else 0) a = sumTo (fun _ => 0) a := sumTo_congr fun i hi => by
        have : decide (a = i) = false := decide_eq_false (by omega)
        rw [this]; simp
      rw [this, sumTo_zero]; simp
    · rw [ih (by omega)]
      have : decide (a = n) = false := decide_eq_false e
      rw [this]; simp
theorem cnt_perm {n : Nat} (p : Pm n) (g : Nat → Bool) : cnt (fun j => g (p.at' j)) n = cnt g n := by
  rw [cnt_sum, cnt_sum]
  have h1 : sumTo (fun j => if g (p.at' j) then (1 : Int) else 0) n = sumTo (fun j => sumTo (fun v => if decide (p.at' j = v) && g v then 1 else 0) n) n :=
    sumTo_congr fun j hj => (sum_pick g (p.lt hj)).symm
  rw [h1, sumTo_swap]
  refine sumTo_congr fun v hv => ?_
  have h2 : sumTo (fun j => if decide (p.at' j = v) && g v then (1 : Int) else 0) n = sumTo (fun j => if decide (p.inv.at' v = j) && g v then 1 else 0) n := by
    refine sumTo_congr fun j hj => ?_
    have e : decide (p.at' j = v) = decide (p.inv.at' v = j) := by
      rw [decide_eq_decide]
      constructor
      · intro e; rw [← e, at_inv p (p.lt hj), p.find_at hj]
      · intro e; rw [← e, at_inv p hv]; exact (p.find_spec hv).2
    rw [e]
  rw [h2]
  exact sum_pick (fun _ => g v) (p.inv.lt hv)
theorem cnt_upto (f : Nat → Bool) {a n : Nat} (h : a ≤ n) : cnt (fun v => f v && decide (v < a)) n = cnt f a := by
  induction n with
  | zero => have : a = 0 := by omega
            subst this; rfl
  | succ n ih =>
    by_cases e : a = n + 1
    · subst e
      refine cnt_congr fun i hi => ?_
      rw [decide_eq_true hi]; simp
    · rw [cnt_no (by have : decide (n < a) = false := decide_eq_false (by omega)
                     rw [this]; simp), ih (by omega)]
theorem cnt_filter (f : Nat → Bool) (a : Nat) : cnt f a = (((List.range a).filter f).length : Int) := by
  induction a with
  | zero => rfl
  | succ a ih =>
    rw [cnt_succ, ih, List.range_succ, List.filter_append, List.length_append]
    cases h : f a <;> simp [h]

/-- the things that are left before place k -/
def lft {n : Nat} (p : Pm n) (k : Nat) : List Nat := (List.range n).filter fun v => decide (k ≤ p.inv.at' v)
theorem lft_part {n : Nat} (p : Pm n) {k : Nat} (hk : k < n) :
    lft p k = (List.range (p.at' k)).filter (fun v => decide (k ≤ p.inv.at' v)) ++ p.at' k :: ((List.range (n - 1 - p.at' k)).map (p.at' k + 1 + ·)).filter (fun v => decide (k ≤ p.inv.at' v)) := by
  have hx := p.lt hk
  have e : List.range n = List.range (p.at' k) ++ p.at' k :: (List.range (n - 1 - p.at' k)).map (p.at' k + 1 + ·) := by
    have e1 : n = (p.at' k + 1) + (n - 1 - p.at' k) := by omega
    conv => lhs; rw [e1, List.range_add, List.range_succ]
    simp
  have e2 : k ≤ p.inv.at' (p.at' k) := by rw [at_inv p hx, p.find_at hk]; exact Nat.le_refl _
  unfold lft
  conv => lhs; rw [e]
  rw [List.filter_append, List.filter_cons, if_pos (by simpa using e2)]
theorem lft_next {n : Nat} (p : Pm n) {k : Nat} (hk : k < n) :
    lft p (k + 1) = (List.range (p.at' k)).filter (fun v => decide (k ≤ p.inv.at' v)) ++ ((List.range (n - 1 - p.at' k)).map (p.at' k + 1 + ·)).filter (fun v => decide (k ≤ p.inv.at' v)) := by
  have hx := p.lt hk
  have e : List.range n = List.range (p.at' k) ++ p.at' k :: (List.range (n - 1 - p.at' k)).map (p.at' k + 1 + ·) := by
    have e1 : n = (p.at' k + 1) + (n - 1 - p.at' k) := by omega
    conv => lhs; rw [e1, List.range_add, List.range_succ]
    simp
  have e2 : ¬ k + 1 ≤ p.inv.at' (p.at' k) := by rw [at_inv p hx, p.find_at hk]; omega
  have e3 : ∀ v, v < n → v ≠ p.at' k → decide (k + 1 ≤ p.inv.at' v) = decide (k ≤ p.inv.at' v) := by
    intro v hv hne
    rw [decide_eq_decide]
    have : p.inv.at' v ≠ k := fun e => hne (by rw [at_inv p hv] at e; rw [← e]; exact ((p.find_spec hv).2).symm)
    omega
  unfold lft
  conv => lhs; rw [e]
  rw [List.filter_append, List.filter_cons, if_neg (by simpa using e2)]
  congr 1
  · refine List.filter_congr fun v hv => ?_
    rw [List.mem_range] at hv
    exact e3 v (by omega) (by omega)
  · refine List.filter_congr fun v hv => ?_
    rw [List.mem_map] at hv
    obtain ⟨t, ht, rfl⟩ := hv
    rw [List.mem_range] at ht
    exact e3 _ (by omega) (by omega)
theorem less_len {n : Nat} (p : Pm n) {k : Nat} (hk : k < n) : lessAt p.1 k = (((List.range (p.at' k)).filter (fun v => decide (k ≤ p.inv.at' v))).length : Int) := by
  rw [← cnt_filter, ← cnt_upto _ (Nat.le_of_lt (p.lt hk)), ← cnt_perm p]
  unfold lessAt
  rw [p.len]
  have e := cnt_shift (fun j => decide (nth p.1 j < nth p.1 k)) k (n - k)
  rw [show k + (n - k) = n by omega] at e
  refine Eq.trans (cnt_congr fun t ht => rfl) (e.trans (cnt_congr fun j hj => ?_))
  rw [at_inv p (p.lt hj), p.find_at hj]
  congr 1
  rw [p.nth_at hj, p.nth_at hk, decide_eq_decide]
  omega
theorem less_lt {n : Nat} (p : Pm n) {k : Nat} (hk : k < n) : 0 ≤ lessAt p.1 k ∧ lessAt p.1 k < ((n - k : Nat) : Int) := by
  have h1 := cnt_le (invRow2 p.1 k) (n - k)
  have h0 := cnt_nonneg (invRow2 p.1 k) (n - k)
  unfold lessAt
  rw [p.len]
  refine ⟨h0, ?_⟩
  obtain ⟨m, hm⟩ : ∃ m, n - k = m + 1 := ⟨n - k - 1, by omega⟩
  have h2 : ∀ m, cnt (invRow2 p.1 k) (m + 1) ≤ m := by
    intro m
    induction m with
    | zero => rw [cnt_one]; simp
    | succ m ih =>
      rw [cnt_succ]
      split <;> omega
  rw [hm]
  have := h2 m
  omega

/-- the digits of the rank -/
theorem mul_nat (a c b : Nat) : (a : Int) * (c : Int) + (b : Int) = ((b + c * a : Nat) : Int) := by rw [Int.natCast_add, Int.natCast_mul, Int.mul_comm, Int.add_comm]
theorem horn_div {n : Nat} (p : Pm n) (hn : n ≤ 12) {k : Nat} (hk : k ≤ n) : (rankF p.1).toNat / facN (n - k) = (hornTo p.1 k).toNat := by
  obtain ⟨d, hd⟩ : ∃ d, n - k = d := ⟨_, rfl⟩
  induction d generalizing k with
  | zero =>
    have : k = n := by omega
    subst this
    rw [hd, rankF_horn, p.len]; simp [facN]
  | succ d ih =>
    have h1 := ih (k := k + 1) (by omega) (by omega)
    rw [show n - (k + 1) = d by omega] at h1
    rw [hd, div_step, h1]
    have h2 := horn_nonneg p.1 (by rw [p.len]; omega) k (by rw [p.len]; omega)
    have h3 := less_lt p (k := k) (by omega)
    rw [hornTo, p.len]
    obtain ⟨a, ha⟩ := Int.eq_ofNat_of_zero_le h2
    obtain ⟨b, hb⟩ := Int.eq_ofNat_of_zero_le h3.1
    rw [ha, hb]
    have e : ((n : Int) - k) = ((d + 1 : Nat) : Int) := by omega
    rw [e]
    have e2 : ((a : Int) * ((d + 1 : Nat) : Int) + (b : Int)).toNat = b + (d + 1) * a := by
      rw [mul_nat, Int.toNat_natCast]
    rw [e2, Nat.add_mul_div_left _ _ (by omega), Nat.div_eq_of_lt (by omega)]
    simp
theorem dig_less {n : Nat} (p : Pm n) (hn : n ≤ 12) {k : Nat} (hk : k < n) : (digN n (rankF p.1).toNat k : Int) = lessAt p.1 k := by
  have h1 := horn_div p hn (k := k + 1) (by omega)
  rw [show n - (k + 1) = n - 1 - k by omega] at h1
  unfold digN
  rw [h1, hornTo, p.len]
  have h2 := horn_nonneg p.1 (by rw [p.len]; omega) k (by rw [p.len]; omega)
  have h3 := less_lt p hk
  obtain ⟨a, ha⟩ := Int.eq_ofNat_of_zero_le h2
  obtain ⟨b, hb⟩ := Int.eq_ofNat_of_zero_le h3.1
  rw [ha, hb]
  have e : ((n : Int) - k) = ((n - k : Nat) : Int) := by omega
  rw [e]
  have e2 : ((a : Int) * ((n - k : Nat) : Int) + (b : Int)).toNat = b + (n - k) * a := by
    rw [mul_nat, Int.toNat_natCast]
  rw [e2, Nat.add_mul_mod_self_left, Nat.mod_eq_of_lt (by omega)]

theorem rest_lft {n : Nat} (p : Pm n) (hn : n ≤ 12) {k : Nat} (hk : k ≤ n) : restTo (idn n) n (rankF p.1).toNat k = (lft p k).map fun v : Nat => (v : Int) := by
  induction k with
  | zero =>
    have : lft p 0 = List.range n := by unfold lft; rw [List.filter_eq_self]; simp
    rw [this]; simp [restTo, idn, marks]
  | succ k ih =>
    have h1 := dig_less p hn (k := k) (by omega)
    rw [less_len p (by omega)] at h1
    rw [restTo, ih (by omega), lft_part p (by omega), lft_next p (by omega)]
    generalize digN n (rankF p.1).toNat k = d at *
    generalize (List.range (p.at' k)).filter (fun v => decide (k ≤ p.inv.at' v)) = A at *
    generalize ((List.range (n - 1 - p.at' k)).map (p.at' k + 1 + ·)).filter (fun v => decide (k ≤ p.inv.at' v)) = B at *
    have h2 : d = A.length := by omega
    subst h2
    rw [List.map_append, List.map_append, List.map_cons, List.eraseIdx_append_of_length_le (by simp)]
    simp
theorem pick_lft {n : Nat} (p : Pm n) (hn : n ≤ 12) {k : Nat} (hk : k ≤ n) : pickTo (idn n) n (rankF p.1).toNat k = p.1.take k := by
  induction k with
  | zero => rfl
  | succ k ih =>
    have h1 := dig_less p hn (k := k) (by omega)
    rw [less_len p (by omega)] at h1
    rw [pickTo, ih (by omega), rest_lft p hn (by omega), lft_part p (by omega)]
    generalize digN n (rankF p.1).toNat k = d at *
    generalize (List.range (p.at' k)).filter (fun v => decide (k ≤ p.inv.at' v)) = A at *
    have h2 : d = A.length := by omega
    subst h2
    have h3 := p.nth_at (i := k) (by omega)
    have h4 : k < p.1.length := by rw [p.len]; omega
    have e : ∀ (x : Nat) (B : List Nat), nth ((A ++ x :: B).map fun v : Nat => (v : Int)) A.length = x := by
      intro x B; simp [nth]
    rw [e, ← h3]
    rw [List.take_add_one]
    simp [nth, h4]
theorem at_rank {n : Nat} (p : Pm n) (hn : n ≤ 12) : atF n (rankF p.1).toNat = p.1 := by
  unfold atF
  rw [pick_lft p hn (Nat.le_refl _)]
  exact List.take_of_length_le (by rw [p.len]; exact Nat.le_refl _)
theorem rank_nonneg {n : Nat} (p : Pm n) (hn : n ≤ 12) : 0 ≤ rankF p.1 := by
  rw [rankF_horn]
  exact horn_nonneg p.1 (by rw [p.len]; omega) _ (Nat.le_refl _)
theorem rank_lt {n : Nat} (p : Pm n) (hn : n ≤ 12) : rankF p.1 ≤ fac n - 1 := by
  have h := horn_div p hn (k := 0) (by omega)
  have h0 := rank_nonneg p hn
  have e : (hornTo p.1 0).toNat = 0 := rfl
  rw [e, Nat.sub_zero, Nat.div_eq_zero_iff] at h
  have := facN_pos n
  rw [fac_N]
  omega
theorem has_rank {n : Nat} (p : Pm n) (hn : n ≤ 12) : hasRank n (rankF p.1) = true := by
  have h0 := rank_nonneg p hn
  have h1 := rank_lt p hn
  simp [hasRank, inB]
  omega
theorem rank_inj {n : Nat} (p q : Pm n) (hn : n ≤ 12) : rankF p.1 = rankF q.1 ↔ p.1 = q.1 := by
  constructor
  · intro e
    have := at_rank q hn
    rw [← e, at_rank p hn] at this
    exact this
  · intro e; rw [e]

/-- the reduced word sorts -/
theorem desc_one {n : Nat} (p : Pm n) (h : descF p.1 = []) : p = one n := by
  rcases Classical.em (p = one n) with e | e
  · exact e
  · obtain ⟨k, hk, h0, hle⟩ := has_start p e
    have h1 := (le_sg p hk h0).1 hle
    unfold descF listTo at h
    rw [List.map_eq_nil_iff, List.filter_eq_nil_iff] at h
    have h2 := h (k - 1) (by rw [List.mem_range, p.len]; omega)
    have a1 := p.nth_at (i := k) hk
    have a2 := p.nth_at (i := k - 1) (by omega)
    unfold isDesc at h2
    rw [show k - 1 + 1 = k by omega] at h2
    simp at h2; omega
theorem red_sorts {n : Nat} (p : Pm n) : exch p.1 (redF p.1) = (one n).1 ∧ ((redF p.1).length : Int) = invsF p.1 := by
  generalize hm : (ni p).toNat = m
  induction m using Nat.strongRecOn generalizing p with
  | _ m ih =>
    cases hd : descF p.1 with
    | nil =>
      have e := desc_one p hd
      rw [redF_none hd, e]
      exact ⟨rfl, (ni_one (n := n)).symm⟩
    | cons k r =>
      obtain ⟨j, rfl, hj, hlt⟩ := mem_descF (l := p.1) (x := k) (by rw [hd]; simp)
      rw [p.len] at hj
      have hs := stepL_at hd
      have hv := front_val p hj (Nat.succ_pos j)
      rw [Nat.add_sub_cancel] at hv
      have hi := invs_step hd
      rw [hs.1, hv] at hi
      have hnn := ni_nonneg (mul (sg n (j + 1) hj) p)
      have hp : ni p = invsF p.1 := rfl
      have hp2 : ni (mul (sg n (j + 1) hj) p) = invsF (mul (sg n (j + 1) hj) p).1 := rfl
      have hw := ih (ni (mul (sg n (j + 1) hj) p)).toNat (by omega) _ rfl
      rw [redF_some hd, exch_cons, Int.toNat_natCast, hs.1, hv]
      refine ⟨hw.1, ?_⟩
      have := hw.2
      simp; omega
theorem red_go {n : Nat} (p : Pm n) : Wgo n (redF p.1) := fun i hi => by
  have := redF_bd i hi
  rw [p.len] at this
  exact this
theorem red_word {n : Nat} (p : Pm n) : wordF n (redF p.1) = p.1 := by
  obtain ⟨s, hs⟩ := exch_mul (redF p.1) (red_go p)
  have h1 := (red_sorts p).1
  rw [hs] at h1
  have h2 : mul s p = one n := Subtype.ext h1
  unfold wordF
  rw [idn_val, hs, Pm.mul_one, inv_val]
  have h3 : inv s = p := by
    rw [← Pm.mul_one (inv s), ← h2, ← Pm.assoc, inv_mul, Pm.one_mul]
  rw [h3]
theorem red_head {n : Nat} (p : Pm n) {k : Int} {r : List Int} (h : descF p.1 = k :: r) : nth (redF p.1) 0 = k ∧ 0 < (redF p.1).length := by
  rw [redF_some h]; simp [nth]
theorem desc_invs {n : Nat} (p : Pm n) : descF p.1 = [] ↔ invsF p.1 = 0 := by
  constructor
  · intro h; rw [desc_one p h]; exact ni_one
  · intro h
    cases hd : descF p.1 with
    | nil => rfl
    | cons k r =>
      have h1 := invs_step hd
      have h2 := invsF_nonneg (stepL p.1)
      omega
theorem red_takes {n : Nat} (p : Pm n) (hn : n ≤ 12) : takes n (redF p.1) = true := by
  have h1 := (red_sorts p).2
  have h2 := invs_small (l := p.1) (by rw [p.len]; omega)
  have h3 := red_go p
  unfold takes
  have h4 : wordOk n (redF p.1) (redF p.1).length = true := by
    unfold wordOk
    rw [List.all_eq_true]
    intro i hi
    rw [List.mem_range] at hi
    have := h3 i hi
    simp [inB]; omega
  rw [h4]
  simp [inB]
  omega
theorem invs_inv {n : Nat} (p : Pm n) : invsF (invF p.1) = invsF p.1 := by
  rw [inv_val]; exact ni_inv p
theorem comp_inv {n : Nat} (p : Pm n) : compF p.1 (invF p.1) = idn n := by
  rw [inv_val, comp_val, mul_inv, idn_val]

end Go.Proofs.Ytmeccemnmkobbaa
