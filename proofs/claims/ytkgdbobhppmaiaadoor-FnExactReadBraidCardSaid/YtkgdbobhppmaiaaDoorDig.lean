/- Decimal numerals: what is written is read back. Plain. -/
import Derived.Lib.ItoaMem
import Derived.Lib.ParseIntB
import Derived.Test.YtkgdbobhppmaiaaDoorCore
namespace Go.Proofs.YtkgdbobhppmaiaaDoor
open Go.Lib

/-- the value of digits behind a -/
def vald (a : Nat) : List UInt8 → Nat
  | [] => a
  | c :: r => vald (10 * a + (c.toNat - 48)) r
theorem vald_app (a : Nat) (u v : List UInt8) : vald a (u ++ v) = vald (vald a u) v := by
  induction u generalizing a with
  | nil => rfl
  | cons c u ih => exact ih _
def isDg (c : UInt8) : Bool := decide (48 ≤ c.toNat) && decide (c.toNat ≤ 57)
theorem isDg_iff {c : UInt8} : isDg c = true ↔ 48 ≤ c.toNat ∧ c.toNat ≤ 57 := by simp [isDg]
theorem vald_ge (a : Nat) (l : List UInt8) : a ≤ vald a l := by
  induction l generalizing a with
  | nil => exact Nat.le_refl _
  | cons c l ih => have := ih (10 * a + (c.toNat - 48)); unfold vald; omega
theorem ten_step (a b p : Nat) (h : b < 10) : (10 * a + b + 1) * p ≤ (a + 1) * (p * 10) := by
  have h1 : (10 * a + b + 1) * p ≤ ((a + 1) * 10) * p := Nat.mul_le_mul_right _ (by omega)
  rw [Nat.mul_assoc, Nat.mul_comm 10 p] at h1
  exact h1
theorem vald_lt (a : Nat) (l : List UInt8) (h : ∀ c ∈ l, isDg c = true) : vald a l < (a + 1) * 10 ^ l.length := by
  induction l generalizing a with
  | nil => rw [List.length_nil, Nat.pow_zero, Nat.mul_one]; exact Nat.lt_succ_self _
  | cons c l ih =>
    have h1 := ih (10 * a + (c.toNat - 48)) (fun x hx => h x (List.mem_cons_of_mem _ hx))
    have h2 := isDg_iff.1 (h c List.mem_cons_self)
    rw [List.length_cons, Nat.pow_succ]
    exact Nat.lt_of_lt_of_le h1 (ten_step a (c.toNat - 48) _ (by omega))
theorem chr_nat {d : Nat} (h : d < 10) : (UInt8.ofNat (48 + d)).toNat = 48 + d := by
  rw [UInt8.toNat_ofNat']; omega
theorem dg_all (u : Nat) : ∀ c ∈ decDigits u, isDg c = true := by
  induction u using Nat.strongRecOn with
  | _ u ih =>
    intro c hc
    rw [decDigits] at hc
    split at hc
    · rename_i h
      rw [List.mem_singleton] at hc
      rw [hc, isDg_iff, chr_nat h]; omega
    · rcases List.mem_append.1 hc with h1 | h1
      · exact ih (u / 10) (by omega) c h1
      · rw [List.mem_singleton] at h1
        rw [h1, isDg_iff, chr_nat (by omega)]; omega
theorem vald_one (a : Nat) (c : UInt8) : vald a [c] = 10 * a + (c.toNat - 48) := rfl
theorem dg_val (u : Nat) : vald 0 (decDigits u) = u := by
  induction u using Nat.strongRecOn with
  | _ u ih =>
    by_cases h : u < 10
    · have e : decDigits u = [UInt8.ofNat (48 + u)] := by rw [decDigits, dif_pos h]
      rw [e, vald_one, chr_nat h]; omega
    · have e : decDigits u = decDigits (u / 10) ++ [UInt8.ofNat (48 + u % 10)] := by rw [decDigits, dif_neg h]
      have h2 := ih (u / 10) (by omega)
      have h3 := chr_nat (d := u % 10) (by omega)
      rw [e, vald_app, h2, vald_one, h3]; omega
theorem dg_pos (u : Nat) : 1 ≤ (decDigits u).length := by
  rw [decDigits]
  split <;> simp
theorem dg_len (k u : Nat) (h : u < 10 ^ k) (hk : 1 ≤ k) : (decDigits u).length ≤ k := by
  induction k generalizing u with
  | zero => omega
  | succ k ih =>
    rw [decDigits]
    split
    · simp
    · rename_i h1
      rw [Nat.pow_succ] at h
      have hk1 : 1 ≤ k := by
        rcases Nat.eq_zero_or_pos k with e | e
        · subst e; omega
        · exact e
      have := ih (u / 10) (by omega) hk1
      simp; omega
theorem parseM_ok (l : List UInt8) (a : Nat) (h : ∀ c ∈ l, isDg c = true) (hv : vald a l ≤ 18446744073709551615) : parseUintM 18446744073709551615 a l = .ok (vald a l) := by
  induction l generalizing a with
  | nil => rfl
  | cons c l ih =>
    have h2 := isDg_iff.1 (h c (by simp))
    have h3 := vald_ge (10 * a + (c.toNat - 48)) l
    have e : vald a (c :: l) = vald (10 * a + (c.toNat - 48)) l := rfl
    rw [e] at hv ⊢
    rw [parseUintM, if_pos h2, if_neg (by omega), if_neg (by omega), Nat.mul_comm a 10]
    exact ih _ (fun x hx => h x (by simp [hx])) hv
theorem dg_cons (u : Nat) : ∃ c r, decDigits u = c :: r ∧ isDg c = true := by
  have h1 := dg_pos u
  have h2 := dg_all u
  cases h : decDigits u with
  | nil => rw [h] at h1; simp at h1
  | cons c r => exact ⟨c, r, rfl, h2 c (by rw [h]; simp)⟩
theorem parseU_dg (u : Nat) (h : u ≤ 18446744073709551615) : parseUintB 64 (decDigits u) = .ok u := by
  have h1 := parseM_ok (decDigits u) 0 (dg_all u) (by rw [dg_val]; exact h)
  rw [dg_val] at h1
  obtain ⟨c, r, e, -⟩ := dg_cons u
  unfold parseUintB
  rw [if_neg (by rw [e]; simp)]
  exact h1
theorem parse_itoa (m : Int) (h0 : -999999999 ≤ m) (h1 : m ≤ 999999999) : parseIntB 64 (itoa m) = .ok m := by
  by_cases hm : m < 0
  · have hu := parseU_dg m.natAbs (by omega)
    unfold itoa
    rw [if_pos hm]
    unfold parseIntB
    simp only
    rw [if_pos (by decide), hu]
    have e : (45 : UInt8).toNat = 45 := rfl
    simp [e]
    rw [if_neg (by omega)]
    congr 1; omega
  · have hu := parseU_dg m.toNat (by omega)
    unfold itoa
    rw [if_neg hm]
    obtain ⟨c, r, e, hc⟩ := dg_cons m.toNat
    have hc' := isDg_iff.1 hc
    rw [e] at hu ⊢
    unfold parseIntB
    simp only
    rw [if_neg (by omega), hu]
    have e1 : ¬ c.toNat = 45 := by omega
    simp [e1]
    rw [if_neg (by omega)]
    congr 1; omega
theorem itoa_inj {a b : Int} (h0 : -999999999 ≤ a) (h1 : a ≤ 999999999) (h2 : -999999999 ≤ b) (h3 : b ≤ 999999999) (h : itoa a = itoa b) : a = b := by
  have e1 := parse_itoa a h0 h1
  have e2 := parse_itoa b h2 h3
  rw [h, e2] at e1
  injection e1 with e1
  exact e1.symm

/-- n, b are the number with the numeral l, if it has at most nine digits -/
def RdOk (l : List UInt8) (n : Int) (b : Bool) : Prop :=
  (b = true ∧ itoa n = l ∧ -999999999 ≤ n ∧ n ≤ 999999999) ∨ (b = false ∧ n = 0 ∧ ∀ m : Int, -999999999 ≤ m → m ≤ 999999999 → itoa m ≠ l)
theorem RdOk.uniq {l : List UInt8} {n m : Int} {b c : Bool} (h : RdOk l n b) (k : RdOk l m c) : n = m ∧ b = c := by
  rcases h with ⟨rfl, h1, h2, h3⟩ | ⟨rfl, rfl, h1⟩
  · rcases k with ⟨rfl, k1, k2, k3⟩ | ⟨rfl, rfl, k1⟩
    · exact ⟨itoa_inj h2 h3 k2 k3 (h1.trans k1.symm), rfl⟩
    · exact absurd h1 (k1 n h2 h3)
  · rcases k with ⟨rfl, k1, k2, k3⟩ | ⟨rfl, rfl, k1⟩
    · exact absurd k1 (h1 m k2 k3)
    · exact ⟨rfl, rfl⟩
theorem RdOk.rng {l : List UInt8} {n : Int} {b : Bool} (h : RdOk l n b) : -999999999 ≤ n ∧ n ≤ 999999999 := by
  rcases h with ⟨-, -, h2, h3⟩ | ⟨-, rfl, -⟩
  · exact ⟨h2, h3⟩
  · omega
theorem RdOk.itoa {n : Int} (h0 : -999999999 ≤ n) (h1 : n ≤ 999999999) : RdOk (itoa n) n true := .inl ⟨rfl, rfl, h0, h1⟩
theorem rd_bad {l : List UInt8} (h : ∀ v, parseIntB 64 l ≠ .ok v) : RdOk l 0 false := .inr ⟨rfl, rfl, fun m h0 h1 e => h m (by rw [← e]; exact parse_itoa m h0 h1)⟩
theorem rd_other {l : List UInt8} {v : Int} (h : parseIntB 64 l = .ok v) (hv : ¬ (-999999999 ≤ v ∧ v ≤ 999999999 ∧ Lib.itoa v = l)) : RdOk l 0 false :=
  .inr ⟨rfl, rfl, fun m h0 h1 e => by
    have := parse_itoa m h0 h1
    rw [e, h] at this
    injection this with this
    subst this
    exact hv ⟨h0, h1, e⟩⟩
/-- the magnitude of a numeral -/
def magL (l : List UInt8) : List UInt8 := match l with
  | [] => []
  | c :: r => if c.toNat = 45 then r else l
theorem mag_itoa (m : Int) : magL (itoa m) = decDigits m.natAbs := by
  by_cases h : m < 0
  · unfold Lib.itoa; rw [if_pos h]; unfold magL; simp only; rw [if_pos (by decide)]
  · unfold Lib.itoa; rw [if_neg h]
    obtain ⟨c, r, e, hc⟩ := dg_cons m.toNat
    have hc' := isDg_iff.1 hc
    have e2 : m.natAbs = m.toNat := by omega
    rw [e2, e]; unfold magL; simp only; rw [if_neg (by omega)]
theorem rd_len {l : List UInt8} (h : (magL l).length < 1 ∨ 9 < (magL l).length) : RdOk l 0 false :=
  .inr ⟨rfl, rfl, fun m h0 h1 e => by
    rw [← e, mag_itoa] at h
    have := dg_pos m.natAbs
    have := dg_len 9 m.natAbs (by omega) (by omega)
    omega⟩
theorem rd_dig {l : List UInt8} {c : UInt8} (hc : c ∈ magL l) (h : isDg c = false) : RdOk l 0 false :=
  .inr ⟨rfl, rfl, fun m h0 h1 e => by
    rw [← e, mag_itoa] at hc
    rw [dg_all _ c hc] at h; cases h⟩
/-- the number that the digits spell -/
def sgnV (l : List UInt8) (x : Nat) : Int := if (magL l).length < l.length then -(x : Int) else x
theorem sgn_itoa (m : Int) : sgnV (itoa m) m.natAbs = m := by
  unfold sgnV
  rw [mag_itoa]
  by_cases h : m < 0
  · unfold Lib.itoa; rw [if_pos h, if_pos (by simp)]; omega
  · unfold Lib.itoa
    have e2 : m.natAbs = m.toNat := by omega
    rw [if_neg h, e2, if_neg (by omega)]; omega
theorem rd_end {l : List UInt8} (hne : itoa (sgnV l (vald 0 (magL l))) ≠ l) : RdOk l 0 false :=
  .inr ⟨rfl, rfl, fun m h0 h1 e => by
    apply hne
    rw [← e, mag_itoa, dg_val, sgn_itoa]⟩
theorem rd_yes {l : List UInt8} (h9 : (magL l).length ≤ 9) (hd : ∀ c ∈ magL l, isDg c = true) (he : itoa (sgnV l (vald 0 (magL l))) = l) : RdOk l (sgnV l (vald 0 (magL l))) true := by
  have h1 := vald_lt 0 (magL l) hd
  have h2 : 10 ^ (magL l).length ≤ 10 ^ 9 := Nat.pow_le_pow_right (by omega) h9
  have h3 : vald 0 (magL l) ≤ 999999999 := by omega
  refine .inl ⟨rfl, he, ?_, ?_⟩ <;> unfold sgnV <;> split <;> omega

/-- the number that l spells -/
def rdO (l : List UInt8) : Option Int := match parseIntB 64 l with
  | .ok v => if -999999999 ≤ v ∧ v ≤ 999999999 ∧ Lib.itoa v = l then some v else none
  | _ => none
def rdN (l : List UInt8) : Int := (rdO l).getD 0
def rdB (l : List UInt8) : Bool := (rdO l).isSome
theorem rd_self (l : List UInt8) : RdOk l (rdN l) (rdB l) := by
  unfold rdN rdB rdO
  cases h : parseIntB 64 l with
  | ok v =>
    simp only
    by_cases hv : -999999999 ≤ v ∧ v ≤ 999999999 ∧ Lib.itoa v = l
    · rw [if_pos hv]; exact .inl ⟨rfl, hv.2.2, hv.1, hv.2.1⟩
    · rw [if_neg hv]; exact rd_other h hv
  | range => exact rd_bad fun v hv => by rw [h] at hv; cases hv
  | _ => exact rd_bad fun v hv => by rw [h] at hv; cases hv
theorem RdOk.eq {l : List UInt8} {n : Int} {b : Bool} (h : RdOk l n b) : rdN l = n ∧ rdB l = b := (rd_self l).uniq h
/-- the digits of a number; none of nought -/
def dgs (u : Nat) : List UInt8 := if u = 0 then [] else decDigits u
theorem dgs_step {u : Nat} (h : u ≠ 0) : dgs u = dgs (u / 10) ++ [UInt8.ofNat (48 + u % 10)] := by
  unfold dgs
  rw [if_neg h]
  by_cases h1 : u < 10
  · rw [if_pos (by omega), decDigits, dif_pos h1, Nat.mod_eq_of_lt h1]; rfl
  · rw [if_neg (by omega), decDigits, dif_neg h1]
theorem itoa_dgs (n : Int) : itoa n = if n = 0 then [48] else if n < 0 then 45 :: dgs n.natAbs else dgs n.natAbs := by
  by_cases h : n = 0
  · subst h; rw [if_pos rfl]; unfold Lib.itoa; rw [if_neg (by omega), decDigits, dif_pos (by decide)]; rfl
  · rw [if_neg h]
    have e0 : dgs n.natAbs = decDigits n.natAbs := by unfold dgs; rw [if_neg (by omega)]
    rw [e0]
    unfold Lib.itoa
    by_cases h1 : n < 0
    · rw [if_pos h1, if_pos h1]
    · rw [if_neg h1, if_neg h1]
      have e2 : n.natAbs = n.toNat := by omega
      rw [e2]
theorem dgs_all (u : Nat) : ∀ c ∈ dgs u, isDg c = true := by
  unfold dgs
  split
  · simp
  · exact dg_all u

end Go.Proofs.YtkgdbobhppmaiaaDoor
