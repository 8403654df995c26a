/- Letters of doubled words; blocks row by row. Plain. -/
import Derived.Test.YtoomkkeffejcdaaDb
import Derived.Test.YtoomkkeffejcdaaBra
namespace Go.Proofs.Ytoomkkeffejcdaa
open Pm

theorem rowL_mem {f a : Nat} {x : Int} (h : x ∈ rowL f a) : (f : Int) + 1 ≤ x ∧ x ≤ f + a := by
  induction a with
  | zero => simp [rowL] at h
  | succ a ih =>
    rcases List.mem_cons.1 h with rfl | h
    · omega
    · have := ih h; omega
theorem bl_mem {f a b : Nat} {x : Int} (h : x ∈ bl f a b) : (f : Int) + 1 ≤ x ∧ x + 1 ≤ f + a + b := by
  induction b generalizing f with
  | zero => simp [bl] at h
  | succ b ih =>
    rcases List.mem_append.1 h with h | h
    · have := rowL_mem h; omega
    · have := ih h; omega
theorem length_rowL (f a : Nat) : (rowL f a).length = a := by
  induction a with
  | zero => rfl
  | succ a ih => simp [rowL, ih]
theorem length_bl (f a b : Nat) : (bl f a b).length = a * b := by
  induction b generalizing f with
  | zero => rfl
  | succ b ih => rw [bl, List.length_append, length_rowL, ih, Nat.mul_succ]; omega
theorem dl_lv {n : Nat} {s : List Nat} (hs : s.length = n) {k : Int} (h : Lv n k) : ∀ x ∈ dl s k, Lv s.sum x := by
  obtain ⟨P, a, b, Q, rfl, hk⟩ := split_at hs h
  intro x hx
  rw [dl_mid _ _ _ _ _ hk, List.mem_map] at hx
  obtain ⟨y, hy, rfl⟩ := hx
  have h1 := bl_mem hy
  have h2 : (P ++ a :: b :: Q).sum = P.sum + (a + (b + Q.sum)) := by simp [List.sum_append]
  rw [h2]
  rcases Int.lt_trichotomy k 0 with h0 | h0 | h0
  · rw [sign_neg h0]; exact ⟨by omega, by omega⟩
  · exact absurd h0 h.1
  · rw [sign_pos h0]; exact ⟨by omega, by omega⟩
theorem swN_sum {n : Nat} {s : List Nat} (hs : s.length = n) {k : Int} (h : Lv n k) : (swN s (k.natAbs - 1)).sum = s.sum := by
  obtain ⟨P, a, b, Q, rfl, hk⟩ := split_at hs h
  rw [show k.natAbs - 1 = P.length by omega, swN_mid, sum_swap]
theorem dw_lv {n : Nat} (w : List Int) {s : List Nat} (hs : s.length = n) (hw : ∀ k ∈ w, Lv n k) : ∀ x ∈ dw w s, Lv s.sum x := by
  induction w generalizing s with
  | nil => simp [dw]
  | cons k w ih =>
    intro x hx
    rw [dw, List.mem_append] at hx
    rcases hx with hx | hx
    · exact dl_lv hs (hw k (by simp)) x hx
    · have := ih (s := swN s (k.natAbs - 1)) (by rw [swN_len, hs]) (fun k hk => hw k (by simp [hk])) x hx
      rwa [swN_sum hs (hw k (by simp))] at this
theorem letters_lv {n : Nat} {l : List Int} (h : ∀ k ∈ l, Lv n k) : lettersTo (n : Int) l l.length = true := by
  rw [lettersTo, List.all_eq_true]
  intro k hk
  have h1 := h (nth l k) (by
    have hk' : k < l.length := by simpa using hk
    have e : nth l k = l[k] := by simp [nth, hk']
    rw [e]; exact List.getElem_mem hk')
  have h2 := h1.1
  have h3 := h1.2
  simp only [letterB, inB, Bool.and_eq_true, Bool.not_eq_true', beq_eq_false_iff_ne, decide_eq_true_eq]
  exact ⟨h2, by omega, by omega⟩
theorem lv_letters {n : Nat} {l : List Int} (h : lettersTo (n : Int) l l.length = true) : ∀ k ∈ l, Lv n k := by
  intro k hk
  rw [lettersTo, List.all_eq_true] at h
  obtain ⟨i, hi, rfl⟩ := List.getElem_of_mem hk
  have h1 := h i (by simpa using hi)
  have e : nth l i = l[i] := by simp [nth, hi]
  rw [e] at h1
  simp only [letterB, inB, Bool.and_eq_true, Bool.not_eq_true', beq_eq_false_iff_ne, decide_eq_true_eq] at h1
  exact ⟨h1.1, by omega⟩

/-- sizes as natural numbers -/
def sz (z : List Int) : List Nat := z.map Int.toNat
@[simp] theorem length_sz (z : List Int) : (sz z).length = z.length := by simp [sz]
/-- sizes are within bounds -/
def Szs (z : List Int) : Prop := ∀ i, i < z.length → 0 ≤ nth z i ∧ nth z i ≤ 4
def szsB (z : List Int) : Bool := (List.range z.length).all fun i => inB (nth z i) 0 4
theorem szsB_iff {z : List Int} : szsB z = true ↔ Szs z := by
  unfold szsB Szs
  rw [List.all_eq_true]
  constructor
  · intro h i hi; exact inB_yes (h i (by simpa using hi))
  · intro h i hi
    have := h i (by simpa using hi)
    simp [inB]; exact this
theorem sz_at {z : List Int} (h : Szs z) {i : Nat} (hi : i < z.length) : (((sz z)[i]?.getD 0 : Nat) : Int) = nth z i := by
  have := (h i hi).1
  simp [sz, nth, hi] at this ⊢
  omega
theorem Szs.swap {z : List Int} (h : Szs z) {i : Nat} (hi : i + 1 < z.length) : Szs (swapAt z i) := by
  intro j hj
  rw [length_swapAt] at hj
  rw [nth_swapAt hi]
  split
  · exact h _ (by omega)
  · split
    · exact h _ (by omega)
    · exact h j hj
theorem sz_swap {z : List Int} {i : Nat} (hi : i + 1 < z.length) : sz (swapAt z i) = swN (sz z) i := by
  have h1 : (sz z)[i + 1]?.getD 0 = (nth z (i + 1)).toNat := by simp [sz, nth, hi]
  have h2 : (sz z)[i]?.getD 0 = (nth z i).toNat := by
    have : i < z.length := by omega
    simp [sz, nth, this]
  unfold swN
  rw [h1, h2]
  simp [sz, swapAt, List.map_set]
/-- the sum of a list of numbers -/
def sumF (z : List Int) : Int := sumTo (fun i => nth z i) z.length
theorem sum_take {z : List Int} (h : Szs z) {k : Nat} (hk : k ≤ z.length) : sumTo (fun i => nth z i) k = ((((sz z).take k).sum : Nat) : Int) := by
  induction k with
  | zero => rfl
  | succ k ih =>
    rw [sumTo_succ, ih (by omega), List.take_add_one, List.sum_append, ← sz_at h (by omega)]
    have hk' : k < (sz z).length := by rw [length_sz]; omega
    rw [List.getElem?_eq_getElem hk']
    simp
theorem sum_all {z : List Int} (h : Szs z) : sumF z = (((sz z).sum : Nat) : Int) := by
  unfold sumF
  rw [sum_take h (Nat.le_refl _), List.take_of_length_le (by simp)]
theorem sum_bd4 {z : List Int} (h : Szs z) {k : Nat} (hk : k ≤ z.length) : 0 ≤ sumTo (fun i => nth z i) k ∧ sumTo (fun i => nth z i) k ≤ 4 * k := by
  induction k with
  | zero => exact ⟨Int.le_refl _, Int.le_refl _⟩
  | succ k ih =>
    have := ih (by omega)
    have := h k (by omega)
    rw [sumTo_succ]; omega
theorem dl_nth {n : Nat} {z : List Int} (h : Szs z) (hn : z.length = n) {k : Int} (hk : Lv n k) :
    dl (sz z) k = (bl (sumTo (fun i => nth z i) (k.natAbs - 1)).toNat (nth z (k.natAbs - 1)).toNat (nth z k.natAbs).toNat).map (k.sign * ·) := by
  have h1 := hk.1
  have h2 := hk.2
  unfold dl
  have e1 := sz_at h (i := k.natAbs - 1) (by omega)
  have e2 := sz_at h (i := k.natAbs) (by omega)
  have e3 := sum_take h (k := k.natAbs - 1) (by omega)
  rw [← e1, ← e2, e3]
  simp
theorem dl_len {n : Nat} {z : List Int} (h : Szs z) (hn : z.length = n) {k : Int} (hk : Lv n k) : (dl (sz z) k).length ≤ 16 := by
  have h1 := hk.1
  have h2 := hk.2
  rw [dl_nth h hn hk, List.length_map, length_bl]
  have a := h (k.natAbs - 1) (by omega)
  have b := h k.natAbs (by omega)
  have := Nat.mul_le_mul (show (nth z (k.natAbs - 1)).toNat ≤ 4 by omega) (show (nth z k.natAbs).toNat ≤ 4 by omega)
  omega

/-! the doubled braid -/
def dwI (l z : List Int) : List Int := dw l (sz z)
def okD (n : Int) (l z : List Int) : Bool := okB n l && decide ((z.length : Int) = n)
def codeD (n : Int) (l z : List Int) : Int := if okD n l z then (if szsB z then (if sumF z ≤ 12 ∧ (dwI l z).length ≤ 40 then 0 else 5) else 2) else 1
def nD (n : Int) (l z : List Int) : Int := if codeD n l z = 0 then sumF z else 0
def lD (n : Int) (l z : List Int) : List Int := if codeD n l z = 0 then dwI l z else []
theorem okB_dw {n : Nat} {l z : List Int} (hn : z.length = n) (hl : ∀ k ∈ l, Lv n k) (hz : Szs z) : okB (sumF z) (dwI l z) = decide (sumF z ≤ 12 ∧ (dwI l z).length ≤ 40) := by
  have h1 := dw_lv l (s := sz z) (n := n) (by rw [length_sz, hn]) hl
  have h2 := letters_lv h1
  have h3 := sum_all hz
  unfold okB dwI
  rw [h3, h2]
  by_cases h4 : (((sz z).sum : Nat) : Int) ≤ 12
  · have : inB (((sz z).sum : Nat) : Int) 0 12 = true := by simp [inB]; omega
    rw [this]; simp [h4]
  · have : inB (((sz z).sum : Nat) : Int) 0 12 = false := by simp [inB]; omega
    rw [this]; simp; omega

end Go.Proofs.Ytoomkkeffejcdaa
