/- The permutation at the rank of a permutation is that permutation; its reduced word makes it up. Plain. -/
import Derived.Test.YtgibgcjpehcemaaRwb
import Derived.Test.YtgibgcjpehcemaaPl
import Derived.Test.YtgibgcjpehcemaaRl
import Derived.Test.YtgibgcjpehcemaaWpf
import Derived.Test.YtgibgcjpehcemaaPi
import Derived.Test.YtgibgcjpehcemaaWpi
import Derived.Test.YtgibgcjpehcemaaRwc
namespace Go.Proofs.Ytgibgcjpehcemaa

theorem curAt_step (l : List Int) (t : Nat) : curAt l (t + 1) = curAt (stepL l) t := by
  induction t with
  | zero => rfl
  | succ t ih => show stepL (curAt l (t + 1)) = stepL (curAt (stepL l) t); rw [ih]
theorem outAt_step (l : List Int) (t : Nat) : outAt l (t + 1) = headL l ++ outAt (stepL l) t := by
  induction t with
  | zero => simp [outAt, curAt]
  | succ t ih =>
    show outAt l (t + 1) ++ headL (curAt l (t + 1)) = _
    rw [ih, curAt_step, List.append_assoc]; rfl
theorem redF_none {l : List Int} (h : descF l = []) : redF l = [] := by
  have := (stays_done (l := l) (t := 0) h (invsF l).toNat).2
  rw [Nat.zero_add] at this
  exact this
theorem redF_some {l : List Int} {k : Int} {r : List Int} (h : descF l = k :: r) : redF l = k :: redF (stepL l) := by
  have h1 := invs_step h
  have h2 := invsF_nonneg (stepL l)
  unfold redF
  rw [show (invsF l).toNat = (invsF (stepL l)).toNat + 1 by omega, outAt_step]
  have h3 : headL l = [k] := by unfold headL; rw [h]
  rw [h3]; rfl

end Go.Proofs.Ytgibgcjpehcemaa

namespace Go.Proofs.Ytgibgcjpehcemaa
open Pm

/-- the exchanges of a word on n things -/
def Wgo (n : Nat) (w : List Int) : Prop := ∀ i, i < w.length → 0 ≤ nth w i ∧ nth w i + 1 < n
theorem Wgo.tail {n : Nat} {k : Int} {w : List Int} (h : Wgo n (k :: w)) : Wgo n w := fun i hi => by
  have := h (i + 1) (by simpa using hi)
  simpa [nth] using this
theorem Wgo.head {n : Nat} {k : Int} {w : List Int} (h : Wgo n (k :: w)) : 0 ≤ k ∧ k + 1 < n := by
  have := h 0 (by simp)
  simpa [nth] using this
theorem exch_cons (l : List Int) (k : Int) (w : List Int) : exch l (k :: w) = exch (swapAt l k.toNat) w := rfl
theorem exch_app (l u v : List Int) : exch l (u ++ v) = exch (exch l u) v := by unfold exch; rw [List.foldl_append]
theorem exch_mul {n : Nat} (w : List Int) (h : Wgo n w) : ∃ s : Pm n, ∀ p : Pm n, exch p.1 w = (mul s p).1 := by
  induction w with
  | nil => exact ⟨one n, fun p => by rw [one_mul]; rfl⟩
  | cons k w ih =>
    obtain ⟨s, hs⟩ := ih h.tail
    obtain ⟨h0, h1⟩ := h.head
    obtain ⟨j, rfl⟩ := Int.eq_ofNat_of_zero_le h0
    have hj : j + 1 < n := by omega
    refine ⟨mul s (sg n (j + 1) hj), fun p => ?_⟩
    have e := front_val p hj (by omega)
    rw [Nat.add_sub_cancel] at e
    rw [exch_cons, Int.toNat_natCast, e, hs, assoc]
theorem word_comp {n : Nat} {u v : List Int} (hu : Wgo n u) (hv : Wgo n v) : wordF n (u ++ v) = compF (wordF n u) (wordF n v) := by
  obtain ⟨s, hs⟩ := exch_mul u hu
  obtain ⟨t, ht⟩ := exch_mul v hv
  unfold wordF
  rw [exch_app, idn_val, hs, ht, ht, inv_val, inv_val, inv_val, comp_val, mul_one, mul_one, mul_inv_rev]
theorem word_pm {n : Nat} {u : List Int} (hu : Wgo n u) : ∃ A : Pm n, wordF n u = A.1 := by
  obtain ⟨s, hs⟩ := exch_mul u hu
  exact ⟨inv s, by unfold wordF; rw [idn_val, hs, mul_one, inv_val]⟩
theorem Wgo.app {n : Nat} {u v : List Int} (hu : Wgo n u) (hv : Wgo n v) : Wgo n (u ++ v) := fun i hi => by
  by_cases h : i < u.length
  · have e : nth (u ++ v) i = nth u i := by simp [nth, List.getElem?_append_left h]
    rw [e]; exact hu i h
  · have e : nth (u ++ v) i = nth v (i - u.length) := by simp [nth, List.getElem?_append_right (by omega : u.length ≤ i)]
    rw [e]; exact hv _ (by simp at hi; omega)

end Go.Proofs.Ytgibgcjpehcemaa

namespace Go.Proofs.Ytgibgcjpehcemaa
open Pm

/-- one place of a sum -/
theorem sum_pick (g : Nat → Bool) {n a : Nat} (h : a < n) : sumTo (fun v => if decide (a = v) && g v then 1 else 0) n = if g a then 1 else 0 := by
  induction n with
  | zero => omega
  | succ n ih =>
    rw [sumTo_succ]
    by_cases e : a = n
    · subst e
      have : sumTo (fun v => if decide (a = v) && g v then (1 : Int) else 0) a = sumTo (fun _ => 0) a := sumTo_congr fun i hi => by
        have : decide (a = i) = false := decide_eq_false (by omega)
        rw [this]; simp
      rw [this, sumTo_zero]; simp
    · rw [ih (by omega)]
      have : decide (a = n) = false := decide_eq_false e
      rw [this]; simp
theorem cnt_perm {n : Nat} (p : Pm n) (g : Nat → Bool) : cnt (fun j => g (p.at' j)) n = cnt g n := by
  rw [cnt_sum, cnt_sum]
  have h1 : sumTo (fun j => if g (p.at' j) then (1 : Int) else 0) n = sumTo (fun j => sumTo (fun v => if decide (p.at' j = v) && g v then 1 else 0) n) n :=
    sumTo_congr fun j hj => (sum_pick g (p.lt hj)).symm
  rw [h1, sumTo_swap]
  refine sumTo_congr fun v hv => ?_
  have h2 : sumTo (fun j => if decide (p.at' j = v) && g v then (1 : Int) else 0) n = sumTo (fun j => if decide (p.inv.at' v = j) && g v then 1 else 0) n := by
    refine sumTo_congr fun j hj => ?_
    have e : decide (p.at' j = v) = decide (p.inv.at' v = j) := by
      rw [decide_eq_decide]
      constructor
      · intro e; rw [← e, at_inv p (p.lt hj), p.find_at hj]
      · intro e; rw [← e, at_inv p hv]; exact (p.find_spec hv).2
    rw [e]
  rw [h2]
  exact sum_pick (fun _ => g v) (p.inv.lt hv)
theorem cnt_upto (f : Nat → Bool) {a n : Nat} (h : a ≤ n) : cnt (fun v => f v && decide (v < a)) n = cnt f a := by
  induction n with
  | zero => have : a = 0 := by omega
            subst this; rfl
  | succ n ih =>
    by_cases e : a = n + 1
    · subst e
      refine cnt_congr fun i hi => ?_
      rw [decide_eq_true hi]; simp
    · rw [cnt_no (by have : decide (n < a) = false := decide_eq_false (by omega)
                     rw [this]; simp), ih (by omega)]
theorem cnt_filter (f : Nat → Bool) (a : Nat) : cnt f a = (((List.range a).filter f).length : Int) := by
  induction a with
  | zero => rfl
  | succ a ih =>
    rw [cnt_succ, ih, List.range_succ, List.filter_append, List.length_append]
    cases h : f a <;> simp [h]

/-- the things that are left before place k -/
def lft {n : Nat} (p : Pm n) (k : Nat) : List Nat := (List.range n).filter fun v => decide (k ≤ p.inv.at' v)
theorem lft_part {n : Nat} (p : Pm n) {k : Nat} (hk : k < n) :
    lft p k = (List.range (p.at' k)).filter (fun v => decide (k ≤ p.inv.at' v)) ++ p.at' k :: ((List.range (n - 1 - p.at' k)).map (p.at' k + 1 + ·)).filter (fun v => decide (k ≤ p.inv.at' v)) := by
  have hx := p.lt hk
  have e : List.range n = List.range (p.at' k) ++ p.at' k :: (List.range (n - 1 - p.at' k)).map (p.at' k + 1 + ·) := by
    have e1 : n = (p.at' k + 1) + (n - 1 - p.at' k) := by omega
    conv => lhs; rw [e1, List.range_add, List.range_succ]
    simp
  have e2 : k ≤ p.inv.at' (p.at' k) := by rw [at_inv p hx, p.find_at hk]; exact Nat.le_refl _
  unfold lft
  conv => lhs; rw [e]
  rw [List.filter_append, List.filter_cons, if_pos (by simpa using e2)]
theorem lft_next {n : Nat} (p : Pm n) {k : Nat} (hk : k < n) :
    lft p (k + 1) = (List.range (p.at' k)).filter (fun v => decide (k ≤ p.inv.at' v)) ++ ((List.range (n - 1 - p.at' k)).map (p.at' k + 1 + ·)).filter (fun v => decide (k ≤ p.inv.at' v)) := by
  have hx := p.lt hk
  have e : List.range n = List.range (p.at' k) ++ p.at' k :: (List.range (n - 1 - p.at' k)).map (p.at' k + 1 + ·) := by
    have e1 : n = (p.at' k + 1) + (n - 1 - p.at' k) := by omega
    conv => lhs; rw [e1, List.range_add, List.range_succ]
    simp
  have e2 : ¬ k + 1 ≤ p.inv.at' (p.at' k) := by rw [at_inv p hx, p.find_at hk]; omega
  have e3 : ∀ v, v < n → v ≠ p.at' k → decide (k + 1 ≤ p.inv.at' v) = decide (k ≤ p.inv.at' v) := by
    intro v hv hne
    rw [decide_eq_decide]
    have : p.inv.at' v ≠ k := fun e => hne (by rw [at_inv p hv] at e; rw [← e]; exact ((p.find_spec hv).2).symm)
    omega
  unfold lft
  conv => lhs; rw [e]
  rw [List.filter_append, List.filter_cons, if_neg (by simpa using e2)]
  congr 1
  · refine List.filter_congr fun v hv => ?_
    rw [List.mem_range] at hv
    exact e3 v (by omega) (by omega)
  · refine List.filter_congr fun v hv => ?_
    rw [List.mem_map] at hv
    obtain ⟨t, ht, rfl⟩ := hv
    rw [List.mem_range] at ht
    exact e3 _ (by omega) (by omega)
theorem less_len {n : Nat} (p : Pm n) {k : Nat} (hk : k < n) : lessAt p.1 k = (((List.range (p.at' k)).filter (fun v => decide (k ≤ p.inv.at' v))).length : Int) := by
  rw [← cnt_filter, ← cnt_upto _ (Nat.le_of_lt (p.lt hk)), ← cnt_perm p]
  unfold lessAt
  rw [p.len]
  have e := cnt_shift (fun j => decide (nth p.1 j < nth p.1 k)) k (n - k)
  rw [show k + (n - k) = n by omega] at e
  refine Eq.trans (cnt_congr fun t ht => rfl) (e.trans (cnt_congr fun j hj => ?_))
  rw [at_inv p (p.lt hj), p.find_at hj]
  congr 1
  rw [p.nth_at hj, p.nth_at hk, decide_eq_decide]
  omega
theorem less_lt {n : Nat} (p : Pm n) {k : Nat} (hk : k < n) : 0 ≤ lessAt p.1 k ∧ lessAt p.1 k < ((n - k : Nat) : Int) := by
  have h1 := cnt_le (invRow2 p.1 k) (n - k)
  have h0 := cnt_nonneg (invRow2 p.1 k) (n - k)
  unfold lessAt
  rw [p.len]
  refine ⟨h0, ?_⟩
  obtain ⟨m, hm⟩ : ∃ m, n - k = m + 1 := ⟨n - k - 1, by omega⟩
  have h2 : ∀ m, cnt (invRow2 p.1 k) (m + 1) ≤ m := by
    intro m
    induction m with
    | zero => rw [cnt_one]; simp
    | succ m ih =>
      rw [cnt_succ]
      split <;> omega
  rw [hm]
  have := h2 m
  omega

/-- the digits of the rank -/
theorem mul_nat (a c b : Nat) : (a : Int) * (c : Int) + (b : Int) = ((b + c * a : Nat) : Int) := by rw [Int.natCast_add, Int.natCast_mul, Int.mul_comm, Int.add_comm]
theorem horn_div {n : Nat} (p : Pm n) (hn : n ≤ 12) {k : Nat} (hk : k ≤ n) : (rankF p.1).toNat / facN (n - k) = (hornTo p.1 k).toNat := by
  obtain ⟨d, hd⟩ : ∃ d, n - k = d := ⟨_, rfl⟩
  induction d generalizing k with
  | zero =>
    have : k = n := by omega
    subst this
    rw [hd, rankF_horn, p.len]; simp [facN]
  | succ d ih =>
    have h1 := ih (k := k + 1) (by omega) (by omega)
    rw [show n - (k + 1) = d by omega] at h1
    rw [hd, div_step, h1]
    have h2 := horn_nonneg p.1 (by rw [p.len]; omega) k (by rw [p.len]; omega)
    have h3 := less_lt p (k := k) (by omega)
    rw [hornTo, p.len]
    obtain ⟨a, ha⟩ := Int.eq_ofNat_of_zero_le h2
    obtain ⟨b, hb⟩ := Int.eq_ofNat_of_zero_le h3.1
    rw [ha, hb]
    have e : ((n : Int) - k) = ((d + 1 : Nat) : Int) := by omega
    rw [e]
    have e2 : ((a : Int) * ((d + 1 : Nat) : Int) + (b : Int)).toNat = b + (d + 1) * a := by
      rw [mul_nat, Int.toNat_natCast]
    rw [e2, Nat.add_mul_div_left _ _ (by omega), Nat.div_eq_of_lt (by omega)]
    simp
theorem dig_less {n : Nat} (p : Pm n) (hn : n ≤ 12) {k : Nat} (hk : k < n) : (digN n (rankF p.1).toNat k : Int) = lessAt p.1 k := by
  have h1 := horn_div p hn (k := k + 1) (by omega)
  rw [show n - (k + 1) = n - 1 - k by omega] at h1
  unfold digN
  rw [h1, hornTo, p.len]
  have h2 := horn_nonneg p.1 (by rw [p.len]; omega) k (by rw [p.len]; omega)
  have h3 := less_lt p hk
  obtain ⟨a, ha⟩ := Int.eq_ofNat_of_zero_le h2
  obtain ⟨b, hb⟩ := Int.eq_ofNat_of_zero_le h3.1
  rw [ha, hb]
  have e : ((n : Int) - k) = ((n - k : Nat) : Int) := by omega
  rw [e]
  have e2 : ((a : Int) * ((n - k : Nat) : Int) + (b : Int)).toNat = b + (n - k) * a := by
    rw [mul_nat, Int.toNat_natCast]
  rw [e2, Nat.add_mul_mod_self_left, Nat.mod_eq_of_lt (by omega)]

theorem rest_lft {n : Nat} (p : Pm n) (hn : n ≤ 12) {k : Nat} (hk : k ≤ n) : restTo (idn n) n (rankF p.1).toNat k = (lft p k).map fun v : Nat => (v : Int) := by
  induction k with
  | zero =>
    have : lft p 0 = List.range n := by unfold lft; rw [List.filter_eq_self]; simp
    rw [this]; simp [restTo, idn, marks]
  | succ k ih =>
    have h1 := dig_less p hn (k := k) (by omega)
    rw [less_len p (by omega)] at h1
    rw [restTo, ih (by omega), lft_part p (by omega), lft_next p (by omega)]
    generalize digN n (rankF p.1).toNat k = d at *
    generalize (List.range (p.at' k)).filter (fun v => decide (k ≤ p.inv.at' v)) = A at *
    generalize ((List.range (n - 1 - p.at' k)).map (p.at' k + 1 + ·)).filter (fun v => decide (k ≤ p.inv.at' v)) = B at *
    have h2 : d = A.length := by omega
    subst h2
    rw [List.map_append, List.map_append, List.map_cons, List.eraseIdx_append_of_length_le (by simp)]
    simp
theorem pick_lft {n : Nat} (p : Pm n) (hn : n ≤ 12) {k : Nat} (hk : k ≤ n) : pickTo (idn n) n (rankF p.1).toNat k = p.1.take k := by
  induction k with
  | zero => rfl
  | succ k ih =>
    have h1 := dig_less p hn (k := k) (by omega)
    rw [less_len p (by omega)] at h1
    rw [pickTo, ih (by omega), rest_lft p hn (by omega), lft_part p (by omega)]
    generalize digN n (rankF p.1).toNat k = d at *
    generalize (List.range (p.at' k)).filter (fun v => decide (k ≤ p.inv.at' v)) = A at *
    have h2 : d = A.length := by omega
    subst h2
    have h3 := p.nth_at (i := k) (by omega)
    have h4 : k < p.1.length := by rw [p.len]; omega
    have e : ∀ (x : Nat) (B : List Nat), nth ((A ++ x :: B).map fun v : Nat => (v : Int)) A.length = x := by
      intro x B; simp [nth]
    rw [e, ← h3]
    rw [List.take_add_one]
    simp [nth, h4]
theorem at_rank {n : Nat} (p : Pm n) (hn : n ≤ 12) : atF n (rankF p.1).toNat = p.1 := by
  unfold atF
  rw [pick_lft p hn (Nat.le_refl _)]
  exact List.take_of_length_le (by rw [p.len]; exact Nat.le_refl _)
theorem rank_nonneg {n : Nat} (p : Pm n) (hn : n ≤ 12) : 0 ≤ rankF p.1 := by
  rw [rankF_horn]
  exact horn_nonneg p.1 (by rw [p.len]; omega) _ (Nat.le_refl _)
theorem rank_lt {n : Nat} (p : Pm n) (hn : n ≤ 12) : rankF p.1 ≤ fac n - 1 := by
  have h := horn_div p hn (k := 0) (by omega)
  have h0 := rank_nonneg p hn
  have e : (hornTo p.1 0).toNat = 0 := rfl
  rw [e, Nat.sub_zero, Nat.div_eq_zero_iff] at h
  have := facN_pos n
  rw [fac_N]
  omega
theorem has_rank {n : Nat} (p : Pm n) (hn : n ≤ 12) : hasRank n (rankF p.1) = true := by
  have h0 := rank_nonneg p hn
  have h1 := rank_lt p hn
  simp [hasRank, inB]
  omega
theorem rank_inj {n : Nat} (p q : Pm n) (hn : n ≤ 12) : rankF p.1 = rankF q.1 ↔ p.1 = q.1 := by
  constructor
  · intro e
    have := at_rank q hn
    rw [← e, at_rank p hn] at this
    exact this
  · intro e; rw [e]

/-- the reduced word sorts -/
theorem desc_one {n : Nat} (p : Pm n) (h : descF p.1 = []) : p = one n := by
  rcases Classical.em (p = one n) with e | e
  · exact e
  · obtain ⟨k, hk, h0, hle⟩ := has_start p e
    have h1 := (le_sg p hk h0).1 hle
    unfold descF listTo at h
    rw [List.map_eq_nil_iff, List.filter_eq_nil_iff] at h
    have h2 := h (k - 1) (by rw [List.mem_range, p.len]; omega)
    have a1 := p.nth_at (i := k) hk
    have a2 := p.nth_at (i := k - 1) (by omega)
    unfold isDesc at h2
    rw [show k - 1 + 1 = k by omega] at h2
    simp at h2; omega
theorem red_sorts {n : Nat} (p : Pm n) : exch p.1 (redF p.1) = (one n).1 ∧ ((redF p.1).length : Int) = invsF p.1 := by
  generalize hm : (ni p).toNat = m
  induction m using Nat.strongRecOn generalizing p with
  | _ m ih =>
    cases hd : descF p.1 with
    | nil =>
      have e := desc_one p hd
      rw [redF_none hd, e]
      exact ⟨rfl, (ni_one (n := n)).symm⟩
    | cons k r =>
      obtain ⟨j, rfl, hj, hlt⟩ := mem_descF (l := p.1) (x := k) (by rw [hd]; simp)
      rw [p.len] at hj
      have hs := stepL_at hd
      have hv := front_val p hj (Nat.succ_pos j)
      rw [Nat.add_sub_cancel] at hv
      have hi := invs_step hd
      rw [hs.1, hv] at hi
      have hnn := ni_nonneg (mul (sg n (j + 1) hj) p)
      have hp : ni p = invsF p.1 := rfl
      have hp2 : ni (mul (sg n (j + 1) hj) p) = invsF (mul (sg n (j + 1) hj) p).1 := rfl
      have hw := ih (ni (mul (sg n (j + 1) hj) p)).toNat (by omega) _ rfl
      rw [redF_some hd, exch_cons, Int.toNat_natCast, hs.1, hv]
      refine ⟨hw.1, ?_⟩
      have := hw.2
      simp; omega
theorem red_go {n : Nat} (p : Pm n) : Wgo n (redF p.1) := fun i hi => by
  have := redF_bd i hi
  rw [p.len] at this
  exact this
theorem red_word {n : Nat} (p : Pm n) : wordF n (redF p.1) = p.1 := by
  obtain ⟨s, hs⟩ := exch_mul (redF p.1) (red_go p)
  have h1 := (red_sorts p).1
  rw [hs] at h1
  have h2 : mul s p = one n := Subtype.ext h1
  unfold wordF
  rw [idn_val, hs, Pm.mul_one, inv_val]
  have h3 : inv s = p := by
    rw [← Pm.mul_one (inv s), ← h2, ← Pm.assoc, inv_mul, Pm.one_mul]
  rw [h3]
theorem red_head {n : Nat} (p : Pm n) {k : Int} {r : List Int} (h : descF p.1 = k :: r) : nth (redF p.1) 0 = k ∧ 0 < (redF p.1).length := by
  rw [redF_some h]; simp [nth]
theorem desc_invs {n : Nat} (p : Pm n) : descF p.1 = [] ↔ invsF p.1 = 0 := by
  constructor
  · intro h; rw [desc_one p h]; exact ni_one
  · intro h
    cases hd : descF p.1 with
    | nil => rfl
    | cons k r =>
      have h1 := invs_step hd
      have h2 := invsF_nonneg (stepL p.1)
      omega
theorem red_takes {n : Nat} (p : Pm n) (hn : n ≤ 12) : takes n (redF p.1) = true := by
  have h1 := (red_sorts p).2
  have h2 := invs_small (l := p.1) (by rw [p.len]; omega)
  have h3 := red_go p
  unfold takes
  have h4 : wordOk n (redF p.1) (redF p.1).length = true := by
    unfold wordOk
    rw [List.all_eq_true]
    intro i hi
    rw [List.mem_range] at hi
    have := h3 i hi
    simp [inB]; omega
  rw [h4]
  simp [inB]
  omega
theorem invs_inv {n : Nat} (p : Pm n) : invsF (invF p.1) = invsF p.1 := by
  rw [inv_val]; exact ni_inv p
theorem comp_inv {n : Nat} (p : Pm n) : compF p.1 (invF p.1) = idn n := by
  rw [inv_val, comp_val, mul_inv, idn_val]

end Go.Proofs.Ytgibgcjpehcemaa
