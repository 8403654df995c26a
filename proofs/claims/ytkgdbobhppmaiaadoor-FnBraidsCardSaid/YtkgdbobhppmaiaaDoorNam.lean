/- Contracts: names. -/
import Derived.Test.YtkgdbobhppmaiaaDoorNee
namespace Go.Proofs.YtkgdbobhppmaiaaDoor
open Go.RowKit

def byteAt (s : ByteArray) (i : Nat) : Int := (s.data.toList[i]?.getD 0).toNat
def smallB (x : Int) : Bool := inB x 97 122
def digitB (x : Int) : Bool := inB x 48 57
def nameOkTo (s : ByteArray) (k : Nat) : Bool := (List.range k).all fun i => smallB (byteAt s i) || (decide (i ≠ 0) && digitB (byteAt s i))
theorem nameOk_succ (s : ByteArray) (k : Nat) : nameOkTo s (k + 1) = (nameOkTo s k && (smallB (byteAt s k) || (decide (k ≠ 0) && digitB (byteAt s k)))) := by simp [nameOkTo, List.range_succ]
theorem nameOk_no {s : ByteArray} {k m : Nat} (h : (smallB (byteAt s k) || (decide (k ≠ 0) && digitB (byteAt s k))) = false) (hk : k < m) : nameOkTo s m = false := by
  cases e : nameOkTo s m with
  | false => rfl
  | true =>
    rw [nameOkTo, List.all_eq_true] at e
    have := e k (by simpa using hk)
    rw [h] at this; cases this
/-- whether s is a name -/
def nameIs (s : ByteArray) : Bool := decide (1 ≤ s.size) && decide (s.size ≤ 10) && nameOkTo s s.size

set_option maxRecDepth 100000 in
set_option maxHeartbeats 400000 in
theorem digit_spec (x : Int) (w : World) :
    Calls Tryd.prog 91 #[.int .u8 x] w fun e w' => e = .returned (.bool (digitB x)) ∧ w = w' := by
  go_enter Tryd.func91, Tryd.ntmps91
  go_wp2
  all_goals
    go_ret
    exact ⟨ret_bool (by rw [Bool.eq_iff_iff]; simp [digitB, inB]; omega), rfl⟩

theorem empty_iff (s : ByteArray) : s.toList.isEmpty = true ↔ s.size = 0 := by
  rw [List.isEmpty_iff, ByteArray.toList_eq]
  constructor
  · intro h; have : s.data.toList.length = 0 := by rw [h]; rfl
    exact this
  · intro h; exact List.eq_nil_of_length_eq_zero h
theorem byteAt_eq (s : ByteArray) {k : Nat} (h : k < s.size) : ((s[k].toNat : Nat) : Int) = byteAt s k := by
  unfold byteAt
  have e : s.data.toList[k]? = some s[k] := by
    rw [List.getElem?_eq_getElem (by exact h)]; rfl
  rw [e]; rfl
theorem byte_bd (s : ByteArray) (k : Nat) : 0 ≤ byteAt s k ∧ byteAt s k < 256 := by
  unfold byteAt
  have := (s.data.toList[k]?.getD 0).toNat_lt
  omega

end Go.Proofs.YtkgdbobhppmaiaaDoor
