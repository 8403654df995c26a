/- Contracts: the numbers of inversions. -/
import Derived.Test.YtgibgcjpehcemaaWpf
import Derived.Test.YtgibgcjpehcemaaSli
namespace Go.Proofs.Ytgibgcjpehcemaa
open Go.RowKit

theorem vint {k : IntKind} {a b : Int} (h : a = b) : Value.int k a = .int k b := by rw [h]
def invRow (l : List Int) (j : Nat) : Nat → Bool := fun i => decide (nth l j < nth l i)
theorem invsF_eq (l : List Int) : invsF l = sumTo (fun j => cnt (invRow l j) j) l.length := rfl
theorem cnt_bd (f : Nat → Bool) {k : Nat} {b : Int} (h : k ≤ b) : 0 ≤ cnt f k ∧ cnt f k ≤ b := ⟨cnt_nonneg f k, by have := cnt_le f k; omega⟩
theorem sum_bd (f : Nat → Int) {k : Nat} (hk : k ≤ 12) (h : ∀ i, i < k → 0 ≤ f i ∧ f i ≤ 12) : 0 ≤ sumTo f k ∧ sumTo f k ≤ 144 := by
  have h1 := sumTo_nonneg (f := f) (k := k) (fun i hi => (h i hi).1)
  have h2 := sumTo_le (f := f) (k := k) (b := 12) (fun i hi => (h i hi).2)
  omega

theorem nth_drop {l : List Int} {k t : Nat} : nth (l.drop k) t = nth l (k + t) := by simp [nth]
def invRow2 (l : List Int) (i : Nat) : Nat → Bool := fun t => decide (nth l (i + t) < nth l i)
theorem invsF_eq2 (l : List Int) : invsF l = sumTo (fun i => cnt (invRow2 l i) (l.length - i)) l.length := (invs_rows l).symm
/-- -1 where the test fails -/
def orLess (b : Bool) (n : Int) : Int := if b = true then n else -1

set_option maxHeartbeats 2000000 in
theorem InversionsI (v : Value) (l : List Int) (w : World) (h : Reads w v (ints l)) :
    Calls Try.prog 35 #[v] w fun e w' => e = .returned (.int .i64 (orLess (okP l) (invsF l))) ∧ Below w.heap.size w w' := by
  rw [invsF_eq2]
  have hs := h.small
  have hlen := h.len (P := Try.prog) 22 3 ⟨_, sliceI⟩
  simp only [length_ints] at hs hlen
  cases e1 : okP l with
  | false =>
    go_enter Try.func35, Try.ntmps35
    go_wp2_with fail
    refine (ok_impl _ _ _ h).mono ?_
    rintro e w1 ⟨rfl, hb⟩
    rw [e1]
    go_wp2_with fail
    go_ret
    exact ⟨rfl, hb⟩
  | true =>
    obtain ⟨h12, hp⟩ := okP_of e1
    clear hp
    go_enter Try.func35, Try.ntmps35
    go_wp2_with fail
    refine (ok_impl _ _ _ h).mono ?_
    rintro e w1 ⟨rfl, hb⟩
    rw [e1]
    go_wp2_with fail
    go_loop [3, 4, 6, 12] (fun n _ _ j => ∃ k : Nat, k ≤ l.length ∧ j = .int .i64 k ∧ n = .int .i64 (sumTo (fun i => cnt (invRow2 l i) (l.length - i)) k)) (fun _ _ _ j => l.length - (intOf j).toNat)
    case atStart => exact ⟨0, by omega, rfl, rfl⟩
    case round =>
      obtain ⟨k, hk, rfl, rfl⟩ := hrel
      obtain ⟨S0, S1⟩ := sum_bd (fun i => cnt (invRow2 l i) (l.length - i)) (k := k) (by omega) (fun i hi => cnt_bd _ (by omega))
      by_cases hlt : k < l.length
      · have hsl := h.onwards_run sliceI sizeI .i64 k (by omega) (by simp; omega)
        simp only [Int.toNat_natCast] at hsl
        have hon : Reads w1 (onwards v k) (ints (l.drop k)) := by
          have := (h.below hb).onwards k (by simp; omega)
          simpa [ints, List.map_drop] using this
        have hlen2 := hon.len (P := Try.prog) 22 3 ⟨_, sliceI⟩
        simp only [length_ints, List.length_drop] at hlen2
        generalize hm : l.length - k = m at *
        have hM := hid hm
        clear hm
        go_wp2_with fail
        go_loop [3, 6, 19] (fun n _ i => ∃ t : Nat, t ≤ m ∧ i = .int .i64 t ∧ n = .int .i64 (sumTo (fun i => cnt (invRow2 l i) (l.length - i)) k + cnt (invRow2 l k) t)) (fun _ _ i => m - (intOf i).toNat)
        case atStart => exact ⟨0, by omega, rfl, by simp [cnt]⟩
        case round =>
          obtain ⟨t, ht, rfl, rfl⟩ := hrel
          have hm12 : m ≤ 12 := by have := hM.out; omega
          obtain ⟨C0, C1⟩ := cnt_bd (invRow2 l k) (k := t) (b := 12) (by omega)
          by_cases htk : t < m
          · have hdl : (ints (l.drop k)).length = m := by have := hM.out; simpa using this
            have hi := hon.idx 22 sliceI sizeI .i64 t (by omega) (by rw [hdl]; omega)
            have hi2 := h.idx 22 sliceI sizeI .i64 k (by omega) (by simp; omega)
            simp only [Int.toNat_natCast] at hi hi2
            have hc := hon.int (i := t) (by have := hM.out; simp; omega)
            rw [nth_drop] at hc
            have hc2 := (h.below hb).int (i := k) (by omega)
            clear hdl
            cases e : decide (nth l (k + t) < nth l k) with
            | true =>
              have he : Hid (invRow2 l k t = true) := hid e
              go_wp2_with fail
              go_round
              case rel => exact ⟨t + 1, by omega, by go_num, vint (by rw [cnt_yes he.out]; omega)⟩
              case measure => simp [intOf]; omega
            | false =>
              have he : Hid (invRow2 l k t = false) := hid e
              go_wp2_with fail
              go_round
              case rel => exact ⟨t + 1, by omega, by go_num, vint (by rw [cnt_no he.out])⟩
              case measure => simp [intOf]; omega
          · obtain rfl : t = m := by omega
            go_wp2_with fail
            go_round
            case rel => exact ⟨k + 1, by omega, by go_num, vint (by rw [sumTo_succ, hM.out])⟩
            case measure => simp [intOf]; omega
      · obtain rfl : k = l.length := by omega
        go_wp2_with fail
        go_ret
        exact ⟨rfl, hb⟩

end Go.Proofs.Ytgibgcjpehcemaa
