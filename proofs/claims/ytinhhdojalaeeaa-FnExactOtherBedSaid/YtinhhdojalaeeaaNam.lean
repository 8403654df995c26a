/- Contracts: names. -/
import Derived.Test.YtinhhdojalaeeaaNee
namespace Go.Proofs.Ytinhhdojalaeeaa
open Go.RowKit

def byteAt (s : ByteArray) (i : Nat) : Int := (s.data.toList[i]?.getD 0).toNat
def smallB (x : Int) : Bool := inB x 97 122
def digitB (x : Int) : Bool := inB x 48 57
def nameOkTo (s : ByteArray) (k : Nat) : Bool := (List.range k).all fun i => smallB (byteAt s i) || (decide (i ≠ 0) && digitB (byteAt s i))
theorem nameOk_succ (s : ByteArray) (k : Nat) : nameOkTo s (k + 1) = (nameOkTo s k && (smallB (byteAt s k) || (decide (k ≠ 0) && digitB (byteAt s k)))) := by simp [nameOkTo, List.range_succ]
theorem nameOk_no {s : ByteArray} {k m : Nat} (h : (smallB (byteAt s k) || (decide (k ≠ 0) && digitB (byteAt s k))) = false) (hk : k < m) : nameOkTo s m = false := by
  cases e : nameOkTo s m with
  | false => rfl
  | true =>
    rw [nameOkTo, List.all_eq_true] at e
    have := e k (by simpa using hk)
    rw [h] at this; cases this
/-- whether s is a name -/
def nameIs (s : ByteArray) : Bool := decide (1 ≤ s.size) && decide (s.size ≤ 10) && nameOkTo s s.size

set_option maxHeartbeats 400000 in
theorem small_spec (x : Int) (w : World) :
    Calls Try.prog 27 #[.int .u8 x] w fun e w' => e = .returned (.bool (smallB x)) ∧ w = w' := by
  go_enter Try.func27, Try.ntmps27
  go_wp2
  all_goals
    go_ret
    exact ⟨ret_bool (by rw [Bool.eq_iff_iff]; simp [smallB, inB]; omega), rfl⟩

set_option maxHeartbeats 400000 in
theorem small_impl (x : Int) (w : World) :
    Calls Try.prog 29 #[.int .u8 x] w fun e w' => e = .returned (.bool (smallB x)) ∧ w = w' := by
  go_enter Try.func29, Try.ntmps29
  go_wp2
  all_goals
    go_ret
    exact ⟨ret_bool (by rw [Bool.eq_iff_iff]; simp [smallB, inB]; omega), rfl⟩

set_option maxHeartbeats 400000 in
theorem digit_spec (x : Int) (w : World) :
    Calls Try.prog 28 #[.int .u8 x] w fun e w' => e = .returned (.bool (digitB x)) ∧ w = w' := by
  go_enter Try.func28, Try.ntmps28
  go_wp2
  all_goals
    go_ret
    exact ⟨ret_bool (by rw [Bool.eq_iff_iff]; simp [digitB, inB]; omega), rfl⟩

set_option maxHeartbeats 400000 in
theorem digit_impl (x : Int) (w : World) :
    Calls Try.prog 30 #[.int .u8 x] w fun e w' => e = .returned (.bool (digitB x)) ∧ w = w' := by
  go_enter Try.func30, Try.ntmps30
  go_wp2
  all_goals
    go_ret
    exact ⟨ret_bool (by rw [Bool.eq_iff_iff]; simp [digitB, inB]; omega), rfl⟩

theorem empty_iff (s : ByteArray) : s.toList.isEmpty = true ↔ s.size = 0 := by
  rw [List.isEmpty_iff, ByteArray.toList_eq]
  constructor
  · intro h; have : s.data.toList.length = 0 := by rw [h]; rfl
    exact this
  · intro h; exact List.eq_nil_of_length_eq_zero h
theorem byteAt_eq (s : ByteArray) {k : Nat} (h : k < s.size) : ((s[k].toNat : Nat) : Int) = byteAt s k := by
  unfold byteAt
  have e : s.data.toList[k]? = some s[k] := by
    rw [List.getElem?_eq_getElem (by exact h)]; rfl
  rw [e]; rfl
theorem byte_bd (s : ByteArray) (k : Nat) : 0 ≤ byteAt s k ∧ byteAt s k < 256 := by
  unfold byteAt
  have := (s.data.toList[k]?.getD 0).toNat_lt
  omega

set_option maxHeartbeats 2000000 in
theorem IsNameI (s : ByteArray) (w : World) (hs : s.size ≤ 1048576) :
    Calls Try.prog 17 #[.string s] w fun e w' => e = .returned (.bool (nameIs s)) ∧ w = w' := by
  go_enter Try.func17, Try.ntmps17
  go_wp2_with fail
  go_loop [3] (fun i => ∃ k : Nat, k ≤ s.size ∧ i = .int .i64 k ∧ nameOkTo s k = true) (fun i => s.size - (intOf i).toNat)
  case atStart => exact ⟨0, by omega, rfl, rfl⟩
  case round =>
    obtain ⟨k, hk, rfl, hok⟩ := hrel
    have hok' := hid hok
    clear hok
    by_cases hlt : k < s.size
    · have hby : ((s[k].toNat : Nat) : Int) = byteAt s k := byteAt_eq s hlt
      cases e1 : smallB (byteAt s k) with
      | true =>
        have hok2 : Hid (nameOkTo s (k + 1) = true) := hid (by rw [nameOk_succ, hok'.out, e1]; rfl)
        go_wp2_with fail
        refine (small_impl _ _).mono ?_
        rintro e w1 ⟨rfl, rfl⟩
        rw [e1]
        go_wp2_with fail
        go_round
        case rel => exact ⟨k + 1, by omega, by go_num, hok2.out⟩
        case measure => simp [intOf]; omega
      | false =>
        by_cases hk0 : k = 0
        · subst hk0
          have hno : nameIs s = false := by unfold nameIs; rw [nameOk_no (k := 0) (by rw [e1]; rfl) hlt]; simp
          go_wp2_with fail
          refine (small_impl _ _).mono ?_
          rintro e w1 ⟨rfl, rfl⟩
          rw [show byteAt s 0 = byteAt s 0 from rfl] at *
          rw [e1]
          go_wp2_with fail
          go_ret
          exact ⟨by first | rfl | (rw [hno]; rfl), rfl⟩
        · have hkz : ((k : Int) == 0) = false := by rw [beq_eq_false_iff_ne]; omega
          cases e2 : digitB (byteAt s k) with
          | true =>
            have hok2 : Hid (nameOkTo s (k + 1) = true) := hid (by rw [nameOk_succ, hok'.out, e1, e2]; simp [hk0])
            clear hk0
            go_wp2_with fail
            refine (small_impl _ _).mono ?_
            rintro e w1 ⟨rfl, rfl⟩
            rw [e1]
            go_wp2_with fail
            refine (digit_impl _ _).mono ?_
            rintro e w1 ⟨rfl, rfl⟩
            rw [e2]
            go_wp2_with fail
            go_round
            case rel => exact ⟨k + 1, by omega, by go_num, hok2.out⟩
            case measure => simp [intOf]; omega
          | false =>
            have hno : nameIs s = false := by unfold nameIs; rw [nameOk_no (k := k) (by rw [e1, e2]; simp) hlt]; simp
            clear hk0
            go_wp2_with fail
            refine (small_impl _ _).mono ?_
            rintro e w1 ⟨rfl, rfl⟩
            rw [e1]
            go_wp2_with fail
            refine (digit_impl _ _).mono ?_
            rintro e w1 ⟨rfl, rfl⟩
            rw [e2]
            go_wp2_with fail
            go_ret
            exact ⟨by first | rfl | (rw [hno]; rfl), rfl⟩
    · obtain rfl : k = s.size := by omega
      have hN : Hid (nameIs s = (decide (1 ≤ s.size) && decide (s.size ≤ 10))) := hid (by unfold nameIs; rw [hok'.out]; simp)
      go_wp2_with fail
      all_goals
        go_ret
        exact ⟨ret_bool (by rw [hN.out, Bool.eq_iff_iff]; simp; omega), rfl⟩


set_option maxHeartbeats 2000000 in
theorem IsNameS (s : ByteArray) (w : World) (hs : s.size ≤ 1048576) :
    Calls Try.prog 16 #[.string s] w fun e w' => e = .returned (.bool (nameIs s)) ∧ w = w' := by
  by_cases h0 : s.size = 0
  · have hno : nameIs s = false := by simp [nameIs, h0]
    have hse : s.toList.isEmpty = true := by rw [empty_iff]; exact h0
    clear h0
    go_enter Try.func16, Try.ntmps16
    go_wp2_with fail
    go_ret
    exact ⟨by first | rfl | (rw [hno]; rfl), rfl⟩
  · have h0' : 0 < s.size := by omega
    have hse : s.toList.isEmpty = false := by
      cases e : s.toList.isEmpty with
      | false => rfl
      | true => rw [empty_iff] at e; omega
    have hby0 : ((s[0].toNat : Nat) : Int) = byteAt s 0 := byteAt_eq s h0'
    by_cases h10 : s.size ≤ 10
    · cases e0 : smallB (byteAt s 0) with
      | false =>
        have hno : nameIs s = false := by unfold nameIs; rw [nameOk_no (k := 0) (by rw [e0]; rfl) h0']; simp
        clear h0
        go_enter Try.func16, Try.ntmps16
        go_wp2_with fail
        refine (small_spec _ _).mono ?_
        rintro e w1 ⟨rfl, rfl⟩
        rw [e0]
        go_wp2_with fail
        go_ret
        exact ⟨by first | rfl | (rw [hno]; rfl), rfl⟩
      | true =>
        clear h0
        go_enter Try.func16, Try.ntmps16
        go_wp2_with fail
        refine (small_spec _ _).mono ?_
        rintro e w1 ⟨rfl, rfl⟩
        rw [e0]
        go_wp2_with fail
        clear hby0
        go_loop [3] (fun i => ∃ k : Nat, k ≤ s.size ∧ i = .int .i64 k ∧ nameOkTo s k = true) (fun i => s.size - (intOf i).toNat)
        case atStart => exact ⟨0, by omega, rfl, rfl⟩
        case round =>
          obtain ⟨k, hk, rfl, hok⟩ := hrel
          have hok' := hid hok
          clear hok
          by_cases hlt : k < s.size
          · have hby : ((s[k].toNat : Nat) : Int) = byteAt s k := byteAt_eq s hlt
            cases e1 : smallB (byteAt s k) with
            | true =>
              have hok2 : Hid (nameOkTo s (k + 1) = true) := hid (by rw [nameOk_succ, hok'.out, e1]; rfl)
              go_wp2_with fail
              refine (small_spec _ _).mono ?_
              rintro e w1 ⟨rfl, rfl⟩
              rw [e1]
              go_wp2_with fail
              go_round
              case rel => exact ⟨k + 1, by omega, by go_num, hok2.out⟩
              case measure => simp [intOf]; omega
            | false =>
              have hk0 : k ≠ 0 := by rintro rfl; rw [e0] at e1; cases e1
              cases e2 : digitB (byteAt s k) with
              | true =>
                have hok2 : Hid (nameOkTo s (k + 1) = true) := hid (by rw [nameOk_succ, hok'.out, e1, e2]; simp [hk0])
                clear hk0
                go_wp2_with fail
                refine (small_spec _ _).mono ?_
                rintro e w1 ⟨rfl, rfl⟩
                rw [e1]
                go_wp2_with fail
                refine (digit_spec _ _).mono ?_
                rintro e w1 ⟨rfl, rfl⟩
                rw [e2]
                go_wp2_with fail
                go_round
                case rel => exact ⟨k + 1, by omega, by go_num, hok2.out⟩
                case measure => simp [intOf]; omega
              | false =>
                have hno : nameIs s = false := by unfold nameIs; rw [nameOk_no (k := k) (by rw [e1, e2]; simp) hlt]; simp
                clear hk0
                go_wp2_with fail
                refine (small_spec _ _).mono ?_
                rintro e w1 ⟨rfl, rfl⟩
                rw [e1]
                go_wp2_with fail
                refine (digit_spec _ _).mono ?_
                rintro e w1 ⟨rfl, rfl⟩
                rw [e2]
                go_wp2_with fail
                go_ret
                exact ⟨by first | rfl | (rw [hno]; rfl), rfl⟩
          · obtain rfl : k = s.size := by omega
            have hN : nameIs s = true := by unfold nameIs; rw [hok'.out]; simp; omega
            go_wp2_with fail
            go_ret
            exact ⟨by first | rfl | (rw [hN]; rfl), rfl⟩
    · have hno : nameIs s = false := by simp [nameIs, h10]
      clear h0
      go_enter Try.func16, Try.ntmps16
      go_wp2_with fail
      go_ret
      exact ⟨by first | rfl | (rw [hno]; rfl), rfl⟩

end Go.Proofs.Ytinhhdojalaeeaa
