/- Contracts: the numbers of inversions. -/
import Derived.Test.YtmeccemnmkobbaaWpf
import Derived.Test.YtmeccemnmkobbaaSli
namespace Go.Proofs.Ytmeccemnmkobbaa
open Go.RowKit

theorem vint {k : IntKind} {a b : Int} (h : a = b) : Value.int k a = .int k b := by rw [h]
def invRow (l : List Int) (j : Nat) : Nat → Bool := fun i => decide (nth l j < nth l i)
theorem invsF_eq (l : List Int) : invsF l = sumTo (fun j => cnt (invRow l j) j) l.length := rfl
theorem cnt_bd (f : Nat → Bool) {k : Nat} {b : Int} (h : k ≤ b) : 0 ≤ cnt f k ∧ cnt f k ≤ b := ⟨cnt_nonneg f k, by have := cnt_le f k; omega⟩
theorem sum_bd (f : Nat → Int) {k : Nat} (hk : k ≤ 12) (h : ∀ i, i < k → 0 ≤ f i ∧ f i ≤ 12) : 0 ≤ sumTo f k ∧ sumTo f k ≤ 144 := by
  have h1 := sumTo_nonneg (f := f) (k := k) (fun i hi => (h i hi).1)
  have h2 := sumTo_le (f := f) (k := k) (b := 12) (fun i hi => (h i hi).2)
  omega

set_option maxRecDepth 100000 in
set_option maxHeartbeats 2000000 in
theorem invs_spec (v : Value) (l : List Int) (w : World) (h : Reads w v (ints l)) (h12 : l.length ≤ 12) :
    Calls Try.prog 70 #[v] w fun e w' => e = .returned (.int .i64 (invsF l)) ∧ Below w.heap.size w w' := by
  rw [invsF_eq]
  have hs := h.small
  have hlen := h.len (P := Try.prog) 32 3 ⟨_, sliceI⟩
  simp only [length_ints] at hs hlen
  go_enter Try.func70, Try.ntmps70
  go_wp2_with fail
  go_loopw [3, 4, 5] (fun n j _ wr => ∃ k : Nat, k ≤ l.length ∧ j = .int .i64 k ∧ n = .int .i64 (sumTo (fun j => cnt (invRow l j) j) k) ∧ Below w.heap.size w wr) (fun _ j _ _ => l.length - (intOf j).toNat)
  case atStart => exact ⟨0, by omega, rfl, rfl, Below.refl _ _⟩
  case round =>
    obtain ⟨k, hk, rfl, rfl, hb⟩ := hrel
    obtain ⟨S0, S1⟩ := sum_bd (fun j => cnt (invRow l j) j) (k := k) (by omega) (fun i hi => cnt_bd _ (by omega))
    by_cases hlt : k < l.length
    · obtain ⟨wo, rfl⟩ : ∃ wo : World, wo = wr := ⟨_, rfl⟩
      go_wp2_with fail
      go_loopw [3, 5] (fun n i wr => ∃ t : Nat, t ≤ k ∧ i = .int .i64 t ∧ n = .int .i64 (sumTo (fun j => cnt (invRow l j) j) k + cnt (invRow l k) t) ∧ Below w.heap.size w wr) (fun _ i _ => k - (intOf i).toNat)
      case atStart => exact ⟨0, by omega, rfl, by simp [cnt], hb⟩
      case round =>
        clear hb
        obtain ⟨t, ht, rfl, rfl, hb⟩ := hrel
        obtain ⟨C0, C1⟩ := cnt_bd (invRow l k) (k := t) (b := 12) (by omega)
        by_cases htk : t < k
        · have hi := h.idx 32 sliceI sizeI .i64 t (by omega) (by simp; omega)
          have hi2 := h.idx 32 sliceI sizeI .i64 k (by omega) (by simp; omega)
          simp only [Int.toNat_natCast] at hi hi2
          have hc := (h.below hb).int (i := t) (by omega)
          have hc2 := (h.below hb).int (i := k) (by omega)
          cases e : decide (nth l k < nth l t) with
          | true =>
            have he : Hid (invRow l k t = true) := hid e
            go_wp2_with fail
            go_quiet (fail)
            go_wp2_with fail
            go_roundw
            case rel => exact ⟨t + 1, by omega, by go_num, vint (by rw [cnt_yes he.out]; omega), below_drewN hb _⟩
            case measure => simp [intOf]; omega
          | false =>
            have he : Hid (invRow l k t = false) := hid e
            go_wp2_with fail
            go_quiet (fail)
            go_wp2_with fail
            go_roundw
            case rel => exact ⟨t + 1, by omega, by go_num, vint (by rw [cnt_no he.out]), below_drewN hb _⟩
            case measure => simp [intOf]; omega
        · obtain rfl : t = k := by omega
          go_wp2_with fail
          go_roundw
          case rel => exact ⟨t + 1, by omega, by go_num, vint (by rw [sumTo_succ]), hb⟩
          case measure => simp [intOf]; omega
    · obtain rfl : k = l.length := by omega
      go_wp2_with fail
      go_ret
      exact ⟨rfl, hb⟩

theorem nth_drop {l : List Int} {k t : Nat} : nth (l.drop k) t = nth l (k + t) := by simp [nth]
def invRow2 (l : List Int) (i : Nat) : Nat → Bool := fun t => decide (nth l (i + t) < nth l i)
theorem invsF_eq2 (l : List Int) : invsF l = sumTo (fun i => cnt (invRow2 l i) (l.length - i)) l.length := (invs_rows l).symm
/-- -1 where the test fails -/
def orLess (b : Bool) (n : Int) : Int := if b = true then n else -1

set_option maxRecDepth 100000 in
set_option maxHeartbeats 2000000 in
theorem InversionsS (v : Value) (l : List Int) (w : World) (h : Reads w v (ints l)) :
    Calls Try.prog 21 #[v] w fun e w' => e = .returned (.int .i64 (orLess (okP l) (invsF l))) ∧ Below w.heap.size w w' := by
  cases e1 : okP l with
  | false =>
    go_enter Try.func21, Try.ntmps21
    go_wp2_with fail
    refine (ok_spec _ _ _ h).mono ?_
    rintro e w1 ⟨rfl, hb⟩
    rw [e1]
    go_wp2_with fail
    go_ret
    exact ⟨rfl, hb⟩
  | true =>
    obtain ⟨h12, hp⟩ := okP_of e1
    clear hp
    go_enter Try.func21, Try.ntmps21
    go_wp2_with fail
    refine (ok_spec _ _ _ h).mono ?_
    rintro e w1 ⟨rfl, hb⟩
    rw [e1]
    go_wp2_with fail
    refine (invs_spec _ _ _ (h.below hb) h12).mono ?_
    rintro e w2 ⟨rfl, hb2⟩
    go_wp2_with fail
    go_ret
    exact ⟨rfl, hb.trans (hb2.mono hb.size)⟩

end Go.Proofs.Ytmeccemnmkobbaa
