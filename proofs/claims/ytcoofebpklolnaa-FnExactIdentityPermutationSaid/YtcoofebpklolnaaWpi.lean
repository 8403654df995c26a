/- Contracts: ranks. -/
import Derived.Test.YtcoofebpklolnaaWph
namespace Go.Proofs.Ytcoofebpklolnaa
open Go.RowKit

/-- how many behind place i are less -/
def lessAt (l : List Int) (i : Nat) : Int := cnt (invRow2 l i) (l.length - i)
/-- the number of permutations that are before l -/
def rankF (l : List Int) : Int := sumTo (fun i => lessAt l i * fac (l.length - 1 - i)) l.length
/-- the same, by Horner's rule, after k places -/
def hornTo (l : List Int) : Nat → Int
  | 0 => 0
  | k + 1 => hornTo l k * ((l.length : Int) - k) + lessAt l k

theorem invRow2_zero (l : List Int) (i : Nat) : invRow2 l i 0 = false := by simp [invRow2]
theorem cnt_one (l : List Int) (i : Nat) : cnt (invRow2 l i) 1 = 0 := by rw [cnt_no (invRow2_zero l i)]; rfl
theorem lessAt_bd (l : List Int) (i : Nat) (h12 : l.length ≤ 12) : 0 ≤ lessAt l i ∧ lessAt l i ≤ 12 := cnt_bd _ (by omega)
theorem term_bd (l : List Int) (i : Nat) (h12 : l.length ≤ 12) : 0 ≤ lessAt l i * fac (l.length - 1 - i) ∧ lessAt l i * fac (l.length - 1 - i) ≤ 5748019200 := by
  obtain ⟨a0, a1⟩ := lessAt_bd l i h12
  obtain ⟨f0, f1⟩ := fac_12 (n := l.length - 1 - i) (by omega)
  refine ⟨Int.mul_nonneg a0 (by omega), ?_⟩
  have h1 := Int.mul_le_mul_of_nonneg_right a1 (show 0 ≤ fac (l.length - 1 - i) by omega)
  omega
theorem rankTo_bd (l : List Int) {k : Nat} (h12 : l.length ≤ 12) (hk : k ≤ l.length) : 0 ≤ sumTo (fun i => lessAt l i * fac (l.length - 1 - i)) k ∧ sumTo (fun i => lessAt l i * fac (l.length - 1 - i)) k ≤ 68976230400 := by
  have h1 := sumTo_nonneg (f := fun i => lessAt l i * fac (l.length - 1 - i)) (k := k) (fun i _ => (term_bd l i h12).1)
  have h2 := sumTo_le (f := fun i => lessAt l i * fac (l.length - 1 - i)) (k := k) (b := 5748019200) (fun i _ => (term_bd l i h12).2)
  omega
theorem horn_eq (l : List Int) (k : Nat) (hk : k ≤ l.length) : sumTo (fun i => lessAt l i * fac (l.length - 1 - i)) k = hornTo l k * fac (l.length - k) := by
  induction k with
  | zero => simp [sumTo, hornTo]
  | succ k ih =>
    rw [sumTo_succ, ih (by omega), hornTo]
    have e1 : l.length - k = (l.length - (k + 1)) + 1 := by omega
    have e2 : l.length - 1 - k = l.length - (k + 1) := by omega
    rw [e1, fac, e2, Int.add_mul]
    have e3 : (((l.length - (k + 1) : Nat)) : Int) + 1 = (l.length : Int) - k := by omega
    rw [e3, Int.mul_assoc, Int.mul_comm (fac _) _]
theorem horn_nonneg (l : List Int) (h12 : l.length ≤ 12) (k : Nat) (hk : k ≤ l.length) : 0 ≤ hornTo l k := by
  induction k with
  | zero => exact Int.le_refl _
  | succ k ih =>
    rw [hornTo]
    have := Int.mul_nonneg (ih (by omega)) (show 0 ≤ (l.length : Int) - k by omega)
    have := (lessAt_bd l k h12).1
    omega
theorem horn_bd (l : List Int) {k : Nat} (h12 : l.length ≤ 12) (hk : k < l.length) : 0 ≤ hornTo l k ∧ hornTo l k ≤ 68976230400 ∧ 0 ≤ hornTo l k * ((l.length : Int) - k) ∧ hornTo l k * ((l.length : Int) - k) ≤ 68976230400 := by
  have h0 := horn_nonneg l h12 k (by omega)
  have h1 := (rankTo_bd l h12 (k := k) (by omega)).2
  rw [horn_eq l k (by omega)] at h1
  have e1 : l.length - k = (l.length - k - 1) + 1 := by omega
  have f0 := fac_pos (l.length - k - 1)
  have e3 : (((l.length - k - 1 : Nat)) : Int) + 1 = (l.length : Int) - k := by omega
  rw [e1, fac, e3] at h1
  have h2 : hornTo l k * (1 * ((l.length : Int) - k)) ≤ hornTo l k * (fac (l.length - k - 1) * ((l.length : Int) - k)) :=
    Int.mul_le_mul_of_nonneg_left (Int.mul_le_mul_of_nonneg_right f0 (by omega)) h0
  rw [Int.one_mul] at h2
  have h3 : hornTo l k * 1 ≤ hornTo l k * ((l.length : Int) - k) := Int.mul_le_mul_of_nonneg_left (by omega) h0
  have h4 := Int.mul_nonneg h0 (show 0 ≤ (l.length : Int) - k by omega)
  omega
theorem rankF_horn (l : List Int) : rankF l = hornTo l l.length := by
  unfold rankF
  rw [horn_eq l l.length (Nat.le_refl _)]; simp [fac]

set_option maxHeartbeats 2000000 in
theorem RankS (v : Value) (l : List Int) (w : World) (h : Reads w v (ints l)) :
    Calls Try.prog 25 #[v] w fun e w' => e = .returned (.int .i64 (orLess (okP l) (rankF l))) ∧ Below w.heap.size w w' := by
  have hs := h.small
  have hlen := h.len (P := Try.prog) 22 3 ⟨_, sliceI⟩
  simp only [length_ints] at hs hlen
  cases e1 : okP l with
  | false =>
    go_enter Try.func25, Try.ntmps25
    go_wp2_with fail
    refine (ok_spec _ _ _ h).mono ?_
    rintro e w1 ⟨rfl, hb⟩
    rw [e1]
    go_wp2_with fail
    go_ret
    exact ⟨rfl, hb⟩
  | true =>
    obtain ⟨h12, hp⟩ := okP_of e1
    clear hp
    rw [show orLess true (rankF l) = rankF l from rfl]
    go_enter Try.func25, Try.ntmps25
    go_wp2_with fail
    refine (ok_spec _ _ _ h).mono ?_
    rintro e w1 ⟨rfl, hb⟩
    rw [e1]
    go_wp2_with fail
    go_loopw [3, 4, 5, 6] (fun n j _ _ wr => ∃ k : Nat, k ≤ l.length ∧ j = .int .i64 k ∧ n = .int .i64 (sumTo (fun i => lessAt l i * fac (l.length - 1 - i)) k) ∧ Below w.heap.size w wr) (fun _ j _ _ _ => l.length - (intOf j).toNat)
    case atStart => exact ⟨0, by omega, rfl, rfl, hb⟩
    case round =>
      clear hb
      obtain ⟨k, hk, rfl, rfl, hb⟩ := hrel
      obtain ⟨S0, S1⟩ := rankTo_bd l h12 hk
      by_cases hlt : k < l.length
      · obtain ⟨wo, rfl⟩ : ∃ wo : World, wo = wr := ⟨_, rfl⟩
        obtain ⟨T0, T1⟩ := term_bd l k h12
        have hL : Hid (lessAt l k = cnt (invRow2 l k) (l.length - k)) := hid rfl
        go_wp2_with fail
        go_loopw [5, 6] (fun n i wr => ∃ t : Nat, 1 ≤ t ∧ k + t ≤ l.length ∧ i = .int .i64 ((k : Int) + t) ∧ n = .int .i64 (cnt (invRow2 l k) t) ∧ Below w.heap.size w wr) (fun _ i _ => l.length - (intOf i).toNat)
        case atStart => exact ⟨1, by omega, by omega, rfl, vint (cnt_one l k).symm, hb⟩
        case round =>
          clear hb
          obtain ⟨t, ht1, ht, rfl, rfl, hb⟩ := hrel
          obtain ⟨C0, C1⟩ := cnt_bd (invRow2 l k) (k := t) (b := 12) (by omega)
          by_cases htk : k + t < l.length
          · have hi := h.idx 22 sliceI sizeI .i64 ((k : Int) + t) (by omega) (by simp; omega)
            have hi2 := h.idx 22 sliceI sizeI .i64 k (by omega) (by simp; omega)
            simp only [Int.toNat_natCast] at hi2
            rw [show ((k : Int) + t).toNat = k + t by omega] at hi
            have hc := (h.below hb).int (i := k + t) (by omega)
            have hc2 := (h.below hb).int (i := k) (by omega)
            cases e : decide (nth l (k + t) < nth l k) with
            | true =>
              have he : Hid (invRow2 l k t = true) := hid e
              go_wp2_with fail
              go_quiet (fail)
              go_wp2_with fail
              go_roundw
              case rel => exact ⟨t + 1, by omega, by omega, by go_num, vint (by rw [cnt_yes he.out]), below_drewN hb _⟩
              case measure => simp [intOf]; omega
            | false =>
              have he : Hid (invRow2 l k t = false) := hid e
              go_wp2_with fail
              go_quiet (fail)
              go_wp2_with fail
              go_roundw
              case rel => exact ⟨t + 1, by omega, by omega, by go_num, vint (by rw [cnt_no he.out]), below_drewN hb _⟩
              case measure => simp [intOf]; omega
          · have htl : t = l.length - k := by omega
            have hL2 : Hid (cnt (invRow2 l k) t = lessAt l k) := hid (by rw [hL.out, htl])
            have hTl := hid htl
            clear htl
            go_wp2_with fail
            refine (fac_spec _ _ (by omega) (by omega)).mono ?_
            rintro e w2 ⟨rfl, rfl⟩
            rw [show ((l.length : Int) - 1 - k).toNat = l.length - 1 - k by omega, hL2.out]
            go_wp2_with fail
            go_roundw
            case rel => exact ⟨k + 1, by omega, by go_num, vint (by rw [sumTo_succ]), hb⟩
            case measure => simp [intOf]; omega
      · obtain rfl : k = l.length := by omega
        go_wp2_with fail
        go_ret
        exact ⟨rfl, hb⟩

set_option maxHeartbeats 2000000 in
theorem RankI (v : Value) (l : List Int) (w : World) (h : Reads w v (ints l)) :
    Calls Try.prog 26 #[v] w fun e w' => e = .returned (.int .i64 (orLess (okP l) (rankF l))) ∧ Below w.heap.size w w' := by
  rw [rankF_horn]
  have hs := h.small
  have hlen := h.len (P := Try.prog) 22 3 ⟨_, sliceI⟩
  simp only [length_ints] at hs hlen
  cases e1 : okP l with
  | false =>
    go_enter Try.func26, Try.ntmps26
    go_wp2_with fail
    refine (ok_impl _ _ _ h).mono ?_
    rintro e w1 ⟨rfl, hb⟩
    rw [e1]
    go_wp2_with fail
    go_ret
    exact ⟨rfl, hb⟩
  | true =>
    obtain ⟨h12, hp⟩ := okP_of e1
    clear hp
    rw [show orLess true (hornTo l l.length) = hornTo l l.length from rfl]
    go_enter Try.func26, Try.ntmps26
    go_wp2_with fail
    refine (ok_impl _ _ _ h).mono ?_
    rintro e w1 ⟨rfl, hb⟩
    rw [e1]
    go_wp2_with fail
    go_loop [3, 4, 5, 7, 13] (fun n _ _ _ j => ∃ k : Nat, k ≤ l.length ∧ j = .int .i64 k ∧ n = .int .i64 (hornTo l k)) (fun _ _ _ _ j => l.length - (intOf j).toNat)
    case atStart => exact ⟨0, by omega, rfl, rfl⟩
    case round =>
      obtain ⟨k, hk, rfl, rfl⟩ := hrel
      by_cases hlt : k < l.length
      · obtain ⟨H0, H1, H2, H3⟩ := horn_bd l h12 hlt
        obtain ⟨A0, A1⟩ := lessAt_bd l k h12
        have hL : Hid (lessAt l k = cnt (invRow2 l k) (l.length - k)) := hid rfl
        have hsl := h.onwards_run sliceI sizeI .i64 k (by omega) (by simp; omega)
        simp only [Int.toNat_natCast] at hsl
        have hon : Reads w1 (onwards v k) (ints (l.drop k)) := by
          have := (h.below hb).onwards k (by simp; omega)
          simpa [ints, List.map_drop] using this
        have hlen2 := hon.len (P := Try.prog) 22 3 ⟨_, sliceI⟩
        simp only [length_ints, List.length_drop] at hlen2
        obtain ⟨m, hm⟩ : ∃ m, m = l.length - k := ⟨_, rfl⟩
        rw [← hm] at hlen2
        have hM := hid hm
        clear hm
        go_wp2_with fail
        go_loop [5, 7, 20] (fun n _ i => ∃ t : Nat, t ≤ m ∧ i = .int .i64 t ∧ n = .int .i64 (cnt (invRow2 l k) t)) (fun _ _ i => m - (intOf i).toNat)
        case atStart => exact ⟨0, by omega, rfl, rfl⟩
        case round =>
          obtain ⟨t, ht, rfl, rfl⟩ := hrel
          have hm12 : m ≤ 12 := by have := hM.out; omega
          obtain ⟨C0, C1⟩ := cnt_bd (invRow2 l k) (k := t) (b := 12) (by omega)
          by_cases htk : t < m
          · have hi := hon.idx 22 sliceI sizeI .i64 t (by omega) (by have := hM.out; simp; omega)
            have hi2 := h.idx 22 sliceI sizeI .i64 k (by omega) (by simp; omega)
            simp only [Int.toNat_natCast] at hi hi2
            have hc := hon.int (i := t) (by have := hM.out; simp; omega)
            rw [nth_drop] at hc
            have hc2 := (h.below hb).int (i := k) (by omega)
            cases e : decide (nth l (k + t) < nth l k) with
            | true =>
              have he : Hid (invRow2 l k t = true) := hid e
              go_wp2_with fail
              go_round
              case rel => exact ⟨t + 1, by omega, by go_num, vint (by rw [cnt_yes he.out])⟩
              case measure => simp [intOf]; omega
            | false =>
              have he : Hid (invRow2 l k t = false) := hid e
              go_wp2_with fail
              go_round
              case rel => exact ⟨t + 1, by omega, by go_num, vint (by rw [cnt_no he.out])⟩
              case measure => simp [intOf]; omega
          · obtain rfl : t = m := by omega
            have hL2 : Hid (cnt (invRow2 l k) t = lessAt l k) := hid (by rw [hL.out, hM.out])
            go_wp2_with fail
            go_round
            case rel => exact ⟨k + 1, by omega, by go_num, vint (by rw [hornTo, hL2.out])⟩
            case measure => simp [intOf]; omega
      · obtain rfl : k = l.length := by omega
        go_wp2_with fail
        go_ret
        exact ⟨rfl, hb⟩

end Go.Proofs.Ytcoofebpklolnaa
