/- Contracts: compositions, inverses, flips, descents and starts, of the program and of the reference. -/
import Derived.Test.YtkgdbobhppmaiaaDoorWpa
namespace Go.Proofs.YtkgdbobhppmaiaaDoor
open Go.RowKit

def hasF (l : List Int) (x : Int) : Bool := (List.range l.length).any fun j => nth l j == x

set_option maxRecDepth 100000 in
set_option maxHeartbeats 1000000 in
theorem inv_impl (v : Value) (l : List Int) (w : World) (h : Reads w v (ints l)) (hl : l.length ≤ 1048576) (hr : ∀ i, i < l.length → 0 ≤ nth l i ∧ nth l i < l.length) :
    Calls Tryd.prog 100 #[v] w fun e w' => ∃ x, e = .returned x ∧ Own w' w.heap.size 2 x (ints (invF l)) ∧ Below w.heap.size w w' := by
  have hs := h.small
  have hlen := h.len (P := Tryd.prog) 35 3 ⟨_, sliceI⟩
  simp only [length_ints] at hs hlen
  have hmk := make_run sliceI infoI rfl l.length (by omega) (by omega) (by omega)
  simp only [Int.toNat_natCast] at hmk
  go_enter Tryd.func100, Tryd.ntmps100
  go_wp2_with fail
  go_loopw [4, 5, 11] (fun _ _ i wr => ∃ k : Nat, k ≤ l.length ∧ i = .int .i64 k ∧ Own wr w.heap.size 2 (madeV w l.length) (ints (invTo l k)) ∧ Below w.heap.size w wr) (fun _ _ i _ => l.length - (intOf i).toNat)
  case atStart =>
    refine ⟨0, by omega, rfl, ?_, below_made _ _ _ _⟩
    have := own_made w 2 l.length (.int .i64 0) (by omega) (Nat.le_refl _)
    simpa [ints, invTo] using this
  case round =>
    obtain ⟨k, hk, rfl, hown, hb⟩ := hrel
    by_cases hlt : k < l.length
    · obtain ⟨r0, r1⟩ := hr k hlt
      have hi := h.idx 35 sliceI sizeI .i64 k (by omega) (by simpa using hlt)
      simp only [Int.toNat_natCast] at hi
      have hi3 := hown.reads.idx 35 sliceI sizeI .i64 (nth l k) r0 (by simp; omega)
      have hc := (h.below hb).int hlt
      have hd := hown.reads.cell (nth l k).toNat _ (ints_at (by simp; omega))
      have hf := hown.frozen (i := (nth l k).toNat) (by simp; omega)
      have hab := (hown.adr_blk (i := (nth l k).toNat) (by simp; omega)).2.1
      have hst := hown.set (i := (nth l k).toNat) (by simp; omega) (.int .i64 k)
      rw [ints_set] at hst
      clear hr
      go_wp2_with fail
      go_roundw
      case rel => exact ⟨k + 1, by omega, by go_num, hst, hb.setCell hab _⟩
      case measure => simp [intOf]; omega
    · clear hr
      obtain rfl : k = l.length := by omega
      go_wp2_with fail
      go_ret
      exact ⟨_, rfl, hown, hb⟩

end Go.Proofs.YtkgdbobhppmaiaaDoor
