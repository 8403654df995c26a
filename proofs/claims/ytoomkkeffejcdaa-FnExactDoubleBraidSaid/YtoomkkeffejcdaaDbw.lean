/- Contracts: blocks of strands that pass one another, words for blocks, sums of sizes. -/
import Derived.Test.YtoomkkeffejcdaaDbp
import Derived.Test.YtoomkkeffejcdaaBrk
import Derived.Test.YtoomkkeffejcdaaBrj
namespace Go.Proofs.Ytoomkkeffejcdaa
open Go.RowKit
open Pm

theorem bl_succ (f a b : Nat) : bl f a (b + 1) = bl f a b ++ rowL (f + b) a := by
  induction b generalizing f with
  | zero => simp [bl]
  | succ b ih =>
    rw [bl, ih (f + 1), bl, List.append_assoc, show f + 1 + b = f + (b + 1) by omega]
theorem rowL_take (f a : Nat) {j : Nat} (h : j < a) : (rowL f a).take (j + 1) = (rowL f a).take j ++ [((f + (a - j) : Nat) : Int)] := by
  induction a generalizing j with
  | zero => omega
  | succ a ih =>
    cases j with
    | zero => simp [rowL]; omega
    | succ j =>
      rw [rowL, List.take_succ_cons, List.take_succ_cons, ih (by omega), List.cons_append, show a + 1 - (j + 1) = a - j by omega]
/-- the letters behind t rows and j letters of the next one -/
def blS (s : Int) (f a t j : Nat) : List Int := (bl f a t ++ (rowL (f + t) a).take j).map (s * ·)
theorem blS_zero (s : Int) (f a : Nat) : blS s f a 0 0 = [] := by simp [blS, bl]
theorem blS_row (s : Int) (f a t : Nat) : blS s f a t a = blS s f a (t + 1) 0 := by
  unfold blS
  rw [List.take_of_length_le (by rw [length_rowL]; exact Nat.le_refl _), bl_succ, List.take_zero, List.append_nil]
theorem blS_end (s : Int) (f a b : Nat) : blS s f a b 0 = (bl f a b).map (s * ·) := by simp [blS]
theorem blS_step (s : Int) (f a t : Nat) {j : Nat} (h : j < a) : blS s f a t (j + 1) = blS s f a t j ++ [s * ((f : Int) + t + ((a : Int) - 1 - j) + 1)] := by
  unfold blS
  rw [rowL_take _ _ h, ← List.append_assoc, List.map_append]
  show _ = _ ++ _
  rw [List.map_cons, List.map_nil]
  congr 3
  omega
theorem blS_len (s : Int) (f a t : Nat) {j : Nat} (ha : a ≤ 4) (ht : t ≤ 4) (hj : j ≤ a) : (blS s f a t j).length ≤ 20 := by
  unfold blS
  rw [List.length_map, List.length_append, length_bl, List.length_take]
  have := Nat.mul_le_mul ha ht
  omega
theorem mul_sign_bd {s x : Int} (hs : s = 1 ∨ s = -1) (h0 : 0 ≤ x) (h1 : x ≤ 1000) : -1000 ≤ s * x ∧ s * x ≤ 1000 := by
  rcases hs with rfl | rfl <;> omega


set_option maxHeartbeats 4000000 in
theorem swap_spec (f a b : Nat) (s : Int) (w : World) (hs : s = 1 ∨ s = -1) (hf : f ≤ 100) (ha : a ≤ 4) (hb4 : b ≤ 4) :
    Calls Try.prog 83 #[.int .i64 (f : Int), .int .i64 (a : Int), .int .i64 (b : Int), .int .i64 s] w fun e w' => ∃ u, e = .returned u ∧ Own w' w.heap.size 2 u (ints ((bl f a b).map (s * ·))) ∧ Below w.heap.size w w' := by
  replace hs := hid hs
  go_enter Try.func83, Try.ntmps83
  go_wp2_with fail
  go_loopw [9, 10, 11] (fun u i _ wr => ∃ t : Nat, t ≤ b ∧ i = .int .i64 t ∧ Own wr w.heap.size 2 u (ints (blS s f a t 0)) ∧ Below w.heap.size w wr) (fun _ i _ _ => b - (intOf i).toNat)
  case atStart => exact ⟨0, by omega, rfl, by rw [blS_zero]; exact own_empty w _ (Nat.le_refl _), (Below.refl _ _).alloc (Nat.le_refl _) _⟩
  case round =>
    obtain ⟨t, ht, rfl, hown, hb⟩ := hrel
    by_cases hlt : t < b
    · replace hown := hid hown
      replace hb := hid hb
      go_wp2_with fail
      rename World => wO
      go_loopw [9, 11] (fun u k wr => ∃ j : Nat, j ≤ a ∧ k = .int .i64 ((a : Int) - 1 - j) ∧ Own wr w.heap.size 2 u (ints (blS s f a t j)) ∧ Below w.heap.size w wr) (fun _ k _ => (intOf k + 1).toNat)
      case atStart => exact ⟨0, by omega, by go_num, hown.out, hb.out⟩
      case round =>
        clear hown hb
        obtain ⟨j, hj, rfl, hown, hb⟩ := hrel
        by_cases hja : j < a
        · have hS := hid (blS_step s f a t hja)
          have hL := blS_len s f a t (j := j) ha (by omega) (by omega)
          have hB := mul_sign_bd (x := (f : Int) + t + ((a : Int) - 1 - j) + 1) hs.out (by omega) (by omega)
          have hW := Go.IntWalk.i64_in (s * ((f : Int) + t + ((a : Int) - 1 - j) + 1)) (by omega)
          generalize hx : s * ((f : Int) + t + ((a : Int) - 1 - j) + 1) = x at *
          obtain ⟨v', w', hrun, hown', hb'⟩ := app_one (ty := 22) (x := .int .i64 x) sliceI infoI rfl hown rfl hb.size (by simp; omega) (by decide) hb (Nat.le_refl _)
          have hst := hid (show Own w' w.heap.size 2 v' (ints (blS s f a t (j + 1))) by rw [hS.out]; simpa [ints] using hown')
          replace hb' := hid hb'
          clear hown' hown hb hB
          go_wp2_with (at_builtin; refine wpList_app hrun rfl _ _ rfl rfl rfl ?_)
          go_roundw
          case rel => exact ⟨j + 1, by omega, by go_num, hst.out, hb'.out⟩
          case measure => simp [intOf] <;> omega
        · obtain rfl : j = a := by omega
          rw [blS_row] at hown
          replace hown := hid hown
          replace hb := hid hb
          go_wp2_with fail
          go_roundw
          case rel => exact ⟨t + 1, by omega, by go_num, hown.out, hb.out⟩
          case measure => simp [intOf] <;> omega
    · obtain rfl : t = b := by omega
      rw [blS_end] at hown
      replace hown := hid hown
      replace hb := hid hb
      go_wp2_with fail
      go_ret
      exact ⟨_, rfl, hown.out, hb.out⟩


set_option maxHeartbeats 4000000 in
theorem block_impl (f a b : Nat) (s : Int) (w : World) (hs : s = 1 ∨ s = -1) (hf : f ≤ 100) (ha : a ≤ 4) (hb4 : b ≤ 4) :
    Calls Try.prog 72 #[.int .i64 (f : Int), .int .i64 (a : Int), .int .i64 (b : Int), .int .i64 s] w fun e w' => ∃ u, e = .returned u ∧ Own w' w.heap.size 2 u (ints ((bl f a b).map (s * ·))) ∧ Below w.heap.size w w' := by
  replace hs := hid hs
  go_enter Try.func72, Try.ntmps72
  go_wp2_with fail
  go_loopw [9, 10, 11, 14] (fun u _ _ i wr => ∃ t : Nat, t ≤ b ∧ i = .int .i64 t ∧ Own wr w.heap.size 2 u (ints (blS s f a t 0)) ∧ Below w.heap.size w wr) (fun _ _ _ i _ => b - (intOf i).toNat)
  case atStart => exact ⟨0, by omega, rfl, by rw [blS_zero]; exact own_empty w _ (Nat.le_refl _), (Below.refl _ _).alloc (Nat.le_refl _) _⟩
  case round =>
    obtain ⟨t, ht, rfl, hown, hb⟩ := hrel
    by_cases hlt : t < b
    · replace hown := hid hown
      replace hb := hid hb
      go_wp2_with fail
      rename World => wO
      go_loopw [9, 11] (fun u k wr => ∃ j : Nat, j ≤ a ∧ k = .int .i64 ((a : Int) - 1 - j) ∧ Own wr w.heap.size 2 u (ints (blS s f a t j)) ∧ Below w.heap.size w wr) (fun _ k _ => (intOf k + 1).toNat)
      case atStart => exact ⟨0, by omega, by go_num, hown.out, hb.out⟩
      case round =>
        clear hown hb
        obtain ⟨j, hj, rfl, hown, hb⟩ := hrel
        by_cases hja : j < a
        · have hS := hid (blS_step s f a t hja)
          have hL := blS_len s f a t (j := j) ha (by omega) (by omega)
          have hB := mul_sign_bd (x := (f : Int) + t + ((a : Int) - 1 - j) + 1) hs.out (by omega) (by omega)
          have hW := Go.IntWalk.i64_in (s * ((f : Int) + t + ((a : Int) - 1 - j) + 1)) (by omega)
          generalize hx : s * ((f : Int) + t + ((a : Int) - 1 - j) + 1) = x at *
          obtain ⟨v', w', hrun, hown', hb'⟩ := app_one (ty := 22) (x := .int .i64 x) sliceI infoI rfl hown rfl hb.size (by simp; omega) (by decide) hb (Nat.le_refl _)
          have hst := hid (show Own w' w.heap.size 2 v' (ints (blS s f a t (j + 1))) by rw [hS.out]; simpa [ints] using hown')
          replace hb' := hid hb'
          clear hown' hown hb hB
          go_wp2_with (at_builtin; refine wpList_app hrun rfl _ _ rfl rfl rfl ?_)
          go_roundw
          case rel => exact ⟨j + 1, by omega, by go_num, hst.out, hb'.out⟩
          case measure => simp [intOf] <;> omega
        · obtain rfl : j = a := by omega
          rw [blS_row] at hown
          replace hown := hid hown
          replace hb := hid hb
          go_wp2_with fail
          go_roundw
          case rel => exact ⟨t + 1, by omega, by go_num, hown.out, hb.out⟩
          case measure => simp [intOf] <;> omega
    · obtain rfl : t = b := by omega
      rw [blS_end] at hown
      replace hown := hid hown
      replace hb := hid hb
      go_wp2_with fail
      go_ret
      exact ⟨_, rfl, hown.out, hb.out⟩


end Go.Proofs.Ytoomkkeffejcdaa
