/- Contracts: descents and start letters; the second test for permutations. -/
import Derived.Test.YtmeccemnmkobbaaWpb
namespace Go.Proofs.Ytmeccemnmkobbaa
open Go.RowKit

theorem isDesc_yes {p : List Int} {k : Nat} (h : decide (nth p (k + 1) < nth p k) = true) : isDesc p k = true := h
theorem isDesc_no {p : List Int} {k : Nat} (h : decide (nth p (k + 1) < nth p k) = false) : isDesc p k = false := h

set_option maxRecDepth 100000 in
set_option maxHeartbeats 1000000 in
theorem desc_impl (v : Value) (l : List Int) (w : World) (h : Reads w v (ints l)) (hl : l.length ≤ 1048576) :
    Calls Try.prog 118 #[v] w fun e w' => ∃ x, e = .returned x ∧ Own w' w.heap.size 2 x (ints (descF l)) ∧ Below w.heap.size w w' := by
  have hs := h.small
  have hlen := h.len (P := Try.prog) 32 3 ⟨_, sliceI⟩
  simp only [length_ints] at hs hlen
  go_enter Try.func118, Try.ntmps118
  go_wp2_with fail
  go_loopw [3, 4] (fun x i wr => ∃ k : Nat, k ≤ l.length - 1 ∧ i = .int .i64 (k : Nat) ∧ Own wr w.heap.size 2 x (ints (listTo (isDesc l) (fun i : Nat => (i : Int)) k)) ∧ Below w.heap.size w wr) (fun _ i _ => l.length + 1 - (intOf i).toNat)
  case atStart => exact ⟨0, by omega, rfl, own_empty w _ (Nat.le_refl _), (Below.refl _ _).alloc (Nat.le_refl _) _⟩
  case round =>
    obtain ⟨k, hk, rfl, hown, hb⟩ := hrel
    have hll := length_listTo (isDesc l) (fun i : Nat => (i : Int)) k
    by_cases hlt : k + 1 < l.length
    · have hi := h.idx 32 sliceI sizeI .i64 ((k : Nat)) (by omega) (by simp; omega)
      have hi2 := h.idx 32 sliceI sizeI .i64 ((k : Int) + 1) (by omega) (by simp; omega)
      simp only [Int.toNat_natCast] at hi
      rw [show ((k : Int) + 1).toNat = k + 1 by omega] at hi2
      have hc := (h.below hb).int (i := k) (by omega)
      have hc2 := (h.below hb).int (i := k + 1) (by omega)
      cases e : decide (nth l (k + 1) < nth l k) with
      | true =>
        obtain ⟨v', w', hrun, hown', hb'⟩ := app_one (ty := 32) (x := .int .i64 (k : Nat)) sliceI infoI rfl hown rfl hb.size (by simp; omega) (by decide) hb (Nat.le_refl _)
        have hst : Own w' w.heap.size 2 v' (ints (listTo (isDesc l) (fun i : Nat => (i : Int)) (k + 1))) := by rw [listTo_yes (isDesc_yes e)]; simpa [ints] using hown'
        clear hown' hll hrun hst hb'
        go_wp2_with fail
        go_quiet (fail)
        obtain ⟨v', w', hrun, hown', hb'⟩ := app_one (ty := 32) (x := .int .i64 (k : Nat)) sliceI infoI rfl (hown.drewN nq) rfl hb.size (by simp; have := length_listTo (isDesc l) (fun i : Nat => (i : Int)) k; omega) (by decide) (below_drewN hb nq) (Nat.le_refl _)
        have hst : Own w' w.heap.size 2 v' (ints (listTo (isDesc l) (fun i : Nat => (i : Int)) (k + 1))) := by rw [listTo_yes (isDesc_yes e)]; simpa [ints] using hown'
        clear hown'
        go_wp2_with (at_builtin; refine wpList_app hrun rfl _ _ rfl rfl rfl ?_)
        go_roundw
        case rel => exact ⟨k + 1, by omega, by go_num, hst, hb'⟩
        case measure => simp [intOf]; omega
      | false =>
        have hst := hown
        rw [← listTo_no (g := fun i : Nat => (i : Int)) (isDesc_no e)] at hst
        clear hll
        go_wp2_with fail
        go_quiet (fail)
        go_wp2_with fail
        go_roundw
        case rel => exact ⟨k + 1, by omega, by go_num, hst.drewN _, below_drewN hb _⟩
        case measure => simp [intOf]; omega
    · obtain rfl : k = l.length - 1 := by omega
      clear hll
      go_wp2_with fail
      go_ret
      exact ⟨_, rfl, hown, hb⟩

set_option maxRecDepth 100000 in
set_option maxHeartbeats 1000000 in
theorem start_spec (v : Value) (l : List Int) (w : World) (h : Reads w v (ints l)) (hl : l.length ≤ 1048576) :
    Calls Try.prog 125 #[v] w fun e w' => ∃ x, e = .returned x ∧ Own w' w.heap.size 2 x (ints (startF l)) ∧ Below w.heap.size w w' := by
  have hs := h.small
  have hlen := h.len (P := Try.prog) 32 3 ⟨_, sliceI⟩
  simp only [length_ints] at hs hlen
  go_enter Try.func125, Try.ntmps125
  go_wp2_with fail
  go_loopw [3, 4] (fun x i wr => ∃ k : Nat, k ≤ l.length - 1 ∧ i = .int .i64 ((k : Int) + 1) ∧ Own wr w.heap.size 2 x (ints (listTo (isDesc l) (fun i : Nat => (i : Int) + 1) k)) ∧ Below w.heap.size w wr) (fun _ i _ => l.length + 1 - (intOf i).toNat)
  case atStart => exact ⟨0, by omega, rfl, own_empty w _ (Nat.le_refl _), (Below.refl _ _).alloc (Nat.le_refl _) _⟩
  case round =>
    obtain ⟨k, hk, rfl, hown, hb⟩ := hrel
    have hll := length_listTo (isDesc l) (fun i : Nat => (i : Int) + 1) k
    by_cases hlt : k + 1 < l.length
    · have hi := h.idx 32 sliceI sizeI .i64 ((k : Int) + 1 - 1) (by omega) (by simp; omega)
      have hi2 := h.idx 32 sliceI sizeI .i64 ((k : Int) + 1) (by omega) (by simp; omega)
      rw [show ((k : Int) + 1 - 1) = (k : Int) by omega, Int.toNat_natCast] at hi
      rw [show ((k : Int) + 1).toNat = k + 1 by omega] at hi2
      have hc := (h.below hb).int (i := k) (by omega)
      have hc2 := (h.below hb).int (i := k + 1) (by omega)
      cases e : decide (nth l (k + 1) < nth l k) with
      | true =>
        obtain ⟨v', w', hrun, hown', hb'⟩ := app_one (ty := 32) (x := .int .i64 ((k : Int) + 1)) sliceI infoI rfl hown rfl hb.size (by simp; omega) (by decide) hb (Nat.le_refl _)
        have hst : Own w' w.heap.size 2 v' (ints (listTo (isDesc l) (fun i : Nat => (i : Int) + 1) (k + 1))) := by rw [listTo_yes (isDesc_yes e)]; simpa [ints] using hown'
        clear hown' hll hrun hst hb'
        go_wp2_with fail
        go_quiet (fail)
        obtain ⟨v', w', hrun, hown', hb'⟩ := app_one (ty := 32) (x := .int .i64 ((k : Int) + 1)) sliceI infoI rfl (hown.drewN nq) rfl hb.size (by simp; have := length_listTo (isDesc l) (fun i : Nat => (i : Int) + 1) k; omega) (by decide) (below_drewN hb nq) (Nat.le_refl _)
        have hst : Own w' w.heap.size 2 v' (ints (listTo (isDesc l) (fun i : Nat => (i : Int) + 1) (k + 1))) := by rw [listTo_yes (isDesc_yes e)]; simpa [ints] using hown'
        clear hown'
        go_wp2_with (at_builtin; refine wpList_app hrun rfl _ _ rfl rfl rfl ?_)
        go_roundw
        case rel => exact ⟨k + 1, by omega, by go_num, hst, hb'⟩
        case measure => simp [intOf]; omega
      | false =>
        have hst := hown
        rw [← listTo_no (g := fun i : Nat => (i : Int) + 1) (isDesc_no e)] at hst
        clear hll
        go_wp2_with fail
        go_quiet (fail)
        go_wp2_with fail
        go_roundw
        case rel => exact ⟨k + 1, by omega, by go_num, hst.drewN _, below_drewN hb _⟩
        case measure => simp [intOf]; omega
    · obtain rfl : k = l.length - 1 := by omega
      clear hll
      go_wp2_with fail
      go_ret
      exact ⟨_, rfl, hown, hb⟩

end Go.Proofs.Ytmeccemnmkobbaa
