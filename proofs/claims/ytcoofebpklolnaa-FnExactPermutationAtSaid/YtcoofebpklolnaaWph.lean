/- Contracts: the descents of the reference; factorials and ranks. -/
import Derived.Test.YtcoofebpklolnaaWpg
namespace Go.Proofs.Ytcoofebpklolnaa
open Go.RowKit

set_option maxHeartbeats 2000000 in
theorem DescentsS (v : Value) (l : List Int) (w : World) (h : Reads w v (ints l)) :
    Calls Try.prog 27 #[v] w fun e w' => ∃ x, e = .returned x ∧ Own w' w.heap.size 2 x (ints (onlyIf (okP l) (descF l))) ∧ Below w.heap.size w w' := by
  have hs := h.small
  have hlen := h.len (P := Try.prog) 22 3 ⟨_, sliceI⟩
  simp only [length_ints] at hs hlen
  cases e1 : okP l with
  | false =>
    by_cases h2 : 1 < l.length
    · have h2' : (1 : Int) < l.length := by omega
      go_enter Try.func27, Try.ntmps27
      go_wp2_with fail
      refine wp_loop_once ?_
      go_wp2_with fail
      refine (ok_spec _ _ _ (reads_alloc h _)).mono ?_
      rintro e w1 ⟨rfl, hb⟩
      rw [e1]
      go_wp2_with fail
      go_ret
      have hb0 : Below w.heap.size w (w.alloc (.cells #[] 2)) := (Below.refl _ _).alloc (Nat.le_refl _) _
      exact ⟨_, rfl, (own_empty w _ (Nat.le_refl _)).below hb, hb0.trans (hb.mono hb0.size)⟩
    · have h2' : ¬ (1 : Int) < l.length := by omega
      go_enter Try.func27, Try.ntmps27
      go_wp2_with fail
      refine wp_loop_once ?_
      go_wp2_with fail
      go_ret
      exact ⟨_, rfl, own_empty w _ (Nat.le_refl _), (Below.refl _ _).alloc (Nat.le_refl _) _⟩
  | true =>
    obtain ⟨h12, hp⟩ := okP_of e1
    clear hp
    rw [show onlyIf true (descF l) = descF l from rfl]
    go_enter Try.func27, Try.ntmps27
    go_wp2_with fail
    go_loopw [3, 4] (fun x i wr => ∃ k : Nat, k ≤ l.length - 1 ∧ i = .int .i64 (k : Nat) ∧ Own wr w.heap.size 2 x (ints (listTo (isDesc l) (fun i : Nat => (i : Int)) k)) ∧ Below w.heap.size w wr) (fun _ i _ => l.length + 1 - (intOf i).toNat)
    case atStart => exact ⟨0, by omega, rfl, own_empty w _ (Nat.le_refl _), (Below.refl _ _).alloc (Nat.le_refl _) _⟩
    case round =>
      obtain ⟨k, hk, rfl, hown, hb⟩ := hrel
      by_cases hlt : k + 1 < l.length
      · have hi := h.idx 22 sliceI sizeI .i64 (k : Nat) (by omega) (by simp; omega)
        have hi2 := h.idx 22 sliceI sizeI .i64 ((k : Int) + 1) (by omega) (by simp; omega)
        simp only [Int.toNat_natCast] at hi
        rw [show ((k : Int) + 1).toNat = k + 1 by omega] at hi2
        go_wp2_with fail
        refine (ok_spec _ _ _ (h.below hb)).mono ?_
        rintro e w1 ⟨rfl, hs1⟩
        rw [e1]
        have hown1 := hown.below hs1
        have hb1 := hb.trans (hs1.mono hb.size)
        clear hown hb hs1
        have hc := (h.below hb1).int (i := k) (by omega)
        have hc2 := (h.below hb1).int (i := k + 1) (by omega)
        cases e : decide (nth l (k + 1) < nth l k) with
        | true =>
          go_wp2_with fail
          go_quiet (fail)
          obtain ⟨v', w', hrun, hown', hb'⟩ := app_one (ty := 22) (x := .int .i64 (k : Nat)) sliceI infoI rfl (hown1.drewN nq) rfl hb1.size (by simp; have := length_listTo (isDesc l) (fun i : Nat => (i : Int)) k; omega) (by decide) (below_drewN hb1 nq) (Nat.le_refl _)
          have hst : Own w' w.heap.size 2 v' (ints (listTo (isDesc l) (fun i : Nat => (i : Int)) (k + 1))) := by rw [listTo_yes (isDesc_yes e)]; simpa [ints] using hown'
          clear hown'
          go_wp2_with (at_builtin; refine wpList_app hrun rfl _ _ rfl rfl rfl ?_)
          go_roundw
          case rel => exact ⟨k + 1, by omega, by go_num, hst, hb'⟩
          case measure => simp [intOf]; omega
        | false =>
          have hst := hown1
          rw [← listTo_no (g := fun i : Nat => (i : Int)) (isDesc_no e)] at hst
          go_wp2_with fail
          go_quiet (fail)
          go_wp2_with fail
          go_roundw
          case rel => exact ⟨k + 1, by omega, by go_num, hst.drewN _, below_drewN hb1 _⟩
          case measure => simp [intOf]; omega
      · obtain rfl : k = l.length - 1 := by omega
        go_wp2_with fail
        go_ret
        exact ⟨_, rfl, hown, hb⟩

/-- 1 · 2 · .. · n -/
def fac : Nat → Int
  | 0 => 1
  | n + 1 => fac n * ((n : Int) + 1)
theorem fac_pos (n : Nat) : 1 ≤ fac n := by
  induction n with
  | zero => decide
  | succ n ih =>
    have : 1 * ((n : Int) + 1) ≤ fac n * ((n : Int) + 1) := Int.mul_le_mul_of_nonneg_right ih (by omega)
    rw [fac]; omega
theorem fac_mono {n m : Nat} (h : n ≤ m) : fac n ≤ fac m := by
  induction m with
  | zero => obtain rfl : n = 0 := by omega
            exact Int.le_refl _
  | succ m ih =>
    by_cases e : n = m + 1
    · subst e; exact Int.le_refl _
    · have h1 := ih (by omega)
      have h2 : fac m * 1 ≤ fac m * ((m : Int) + 1) := Int.mul_le_mul_of_nonneg_left (by omega) (by have := fac_pos m; omega)
      rw [fac]; omega
theorem fac_12 {n : Nat} (h : n ≤ 12) : 1 ≤ fac n ∧ fac n ≤ 479001600 := by
  refine ⟨fac_pos n, ?_⟩
  have := fac_mono h
  have e : fac 12 = 479001600 := by decide
  omega

set_option maxHeartbeats 1000000 in
theorem fac_spec (n : Int) (w : World) (h0 : 0 ≤ n) (h1 : n ≤ 12) :
    Calls Try.prog 53 #[.int .i64 n] w fun e w' => e = .returned (.int .i64 (fac n.toNat)) ∧ w = w' := by
  obtain ⟨m, rfl⟩ := Int.eq_ofNat_of_zero_le h0
  rw [Int.toNat_natCast]
  go_enter Try.func53, Try.ntmps53
  go_wp2_with fail
  go_loop [3, 4] (fun a i => ∃ k : Nat, 1 ≤ k ∧ (k ≤ m ∨ k = 1) ∧ i = .int .i64 ((k : Int) + 1) ∧ a = .int .i64 (fac k)) (fun _ i => m + 2 - (intOf i).toNat)
  case atStart => exact ⟨1, by omega, .inr rfl, rfl, rfl⟩
  case round =>
    obtain ⟨k, hk1, hk, rfl, rfl⟩ := hrel
    obtain ⟨f0, f1⟩ := fac_12 (n := k) (by omega)
    by_cases hlt : (k : Int) + 1 ≤ m
    · obtain ⟨g0, g1⟩ := fac_12 (n := k + 1) (by omega)
      have g0' : 1 ≤ fac k * ((k : Int) + 1) := g0
      have g1' : fac k * ((k : Int) + 1) ≤ 479001600 := g1
      clear g0 g1
      go_wp2_with fail
      go_round
      case rel => exact ⟨k + 1, by omega, .inl (by omega), by go_num, rfl⟩
      case measure => simp [intOf]; omega
    · have hm : m = k ∨ m = 0 := by omega
      have hf : fac m = fac k := by
        rcases hm with rfl | rfl
        · rfl
        · obtain rfl : k = 1 := by omega
          decide
      have hF := hid hf
      clear hm hf
      go_wp2_with fail
      go_ret
      exact ⟨ret_int hF.out.symm, rfl⟩

end Go.Proofs.Ytcoofebpklolnaa
