/- Contracts: the permutation with given pairs. -/
import Derived.Test.YtgibgcjpehcemaaCpa
namespace Go.Proofs.Ytgibgcjpehcemaa
open Go.RowKit

set_option maxHeartbeats 8000000 in
theorem with_impl (n : Nat) (f : Nat → Nat → Bool) (x : Bool) (w : World) (hn : n ≤ 12) :
    Calls Try.prog 54 #[.int .i64 (n : Int), .agg (prs f).toArray, .bool x] w fun e w' => ∃ u, e = .returned u ∧ Own w' w.heap.size 2 u (ints (rkL (fun i j => f i j == x) n)) ∧ Below w.heap.size w w' := by
  have hX := Bx.new w (prs f).toArray 52
  have hbX : Below w.heap.size w (w.alloc (.cells (prs f).toArray 52)) := (Below.refl _ _).alloc (Nat.le_refl _) _
  have hmk := make_run sliceI infoI rfl n (by omega) (by omega) (by omega)
  simp only [Int.toNat_natCast] at hmk
  have hsz : (w.alloc (.cells (prs f).toArray 52)).heap.size = w.heap.size + 1 := by simp
  have hO := own_made (w.alloc (.cells (prs f).toArray 52)) 2 n (.int .i64 0) (by omega) (B := w.heap.size + 1) (by omega)
  have hbO := hbX.trans ((below_made (w.alloc (.cells (prs f).toArray 52)) 2 (.int .i64 0) n).mono (by simp))
  have hXO := hX.below (below_made (w.alloc (.cells (prs f).toArray 52)) 2 (.int .i64 0) n)
  have e0 : List.replicate n (Value.int .i64 0) = ints (stL (fun i j => f i j == x) n 0 1) := by rw [stL_start]; simp [ints]
  rw [e0] at hO
  clear e0 hX hbX
  replace hO := hid hO
  replace hbO := hid hbO
  replace hXO := hid hXO
  replace hsz := hid hsz
  go_enter Try.func54, Try.ntmps54
  go_wp2_with fail
  generalize madeV (w.alloc (.cells (prs f).toArray 52)) n = V at *
  generalize madeW (w.alloc (.cells (prs f).toArray 52)) 2 (.int .i64 0) n = w0 at *
  clear hmk hsz
  go_loopw [8, 9, 13] (fun _ _ c wr => ∃ i : Nat, i ≤ n ∧ c = .int .i64 i ∧ Own wr (w.heap.size + 1) 2 V (ints (stL (fun i j => f i j == x) n i (i + 1))) ∧ Bx wr w.heap.size (prs f) ∧ Below w.heap.size w wr) (fun _ _ c _ => n - (intOf c).toNat)
  case atStart => exact ⟨0, by omega, rfl, hO.out, hXO.out, hbO.out⟩
  case round =>
    clear hO hXO hbO
    obtain ⟨i, hi, rfl, hO, hX, hb⟩ := hrel
    by_cases hlt : i < n
    · replace hO := hid hO
      replace hX := hid hX
      replace hb := hid hb
      go_wp2_with fail
      rename World => wF
      go_loopw [9] (fun c wr => ∃ j : Nat, i < j ∧ j ≤ n ∧ c = .int .i64 j ∧ Own wr (w.heap.size + 1) 2 V (ints (stL (fun i j => f i j == x) n i j)) ∧ Bx wr w.heap.size (prs f) ∧ Below w.heap.size w wr) (fun c _ => n - (intOf c).toNat)
      case atStart => exact ⟨i + 1, by omega, by omega, by go_num, hO.out, hX.out, hb.out⟩
      case round =>
        clear hO hX hb
        obtain ⟨j, hij, hj, rfl, hO, hX, hb⟩ := hrel
        by_cases hlt2 : j < n
        · have i0 : (0 : Int) ≤ (i : Int) := by omega
          have i12 : (i : Int) < 12 := by omega
          have j0 : (0 : Int) ≤ (j : Int) := by omega
          have j12 : (j : Int) < 12 := by omega
          have d1 := hX.cell (i * 12 + j) (prs_at (by omega) (by omega))
          by_cases hv : (f i j == x) = true
          case' pos => have ⟨t, ht, hs, ht2⟩ : ∃ t, i = t ∧ (stL (fun i j => f i j == x) n i j).set t (nth (stL (fun i j => f i j == x) n i j) t + 1) = stL (fun i j => f i j == x) n i (j + 1) ∧ t < n := ⟨i, rfl, stL_yes (E := fun i j => f i j == x) hij hlt2 hv, hlt⟩
          case' neg => have ⟨t, ht, hs, ht2⟩ : ∃ t, j = t ∧ (stL (fun i j => f i j == x) n i j).set t (nth (stL (fun i j => f i j == x) n i j) t + 1) = stL (fun i j => f i j == x) n i (j + 1) ∧ t < n := ⟨j, rfl, stL_no (E := fun i j => f i j == x) hij hlt2 (by simpa using hv), hlt2⟩
          all_goals
            have hbd := stL_bd (E := fun i j => f i j == x) (n := n) (i := i) (j := j) ht2 hlt (by omega)
            have ia := hO.reads.idx (P := Try.prog) 22 sliceI sizeI .i64 (t : Int) (by omega) (by simp; omega)
            simp only [Int.toNat_natCast] at ia
            have ca := hO.reads.int (i := t) (by simp; omega)
            have fa := hO.frozen (i := t) (by simp; omega)
            have ab := (hO.adr_blk (i := t) (by simp; omega)).2.1
            have hst := hO.set (i := t) (by simp; omega) (.int .i64 (nth (stL (fun i j => f i j == x) n i j) t + 1))
            rw [ints_set, hs] at hst
            have hXs := hX.other (a := adr V t) (by omega) (.int .i64 (nth (stL (fun i j => f i j == x) n i j) t + 1))
            have hbs := hb.setCell (p := adr V t) (by omega) (.int .i64 (nth (stL (fun i j => f i j == x) n i j) t + 1))
            generalize nth (stL (fun i j => f i j == x) n i j) t = y at *
            replace hst := hid hst
            replace hXs := hid hXs
            replace hbs := hid hbs
            replace hs := hid hs
            clear hO hX hb
            generalize f i j = v1 at *
            subst ht
            cases v1 <;> cases x <;> simp at hv
            all_goals
              go_wp2_with fail
              go_roundw
              case rel => exact ⟨j + 1, by omega, by omega, by go_num, hst.out, hXs.out, hbs.out⟩
              case measure => simp [intOf] <;> omega
        · obtain rfl : j = n := by omega
          rw [stL_row _ hlt] at hO
          replace hO := hid hO
          replace hX := hid hX
          replace hb := hid hb
          go_wp2_with fail
          go_roundw
          case rel => exact ⟨i + 1, by omega, by go_num, hO.out, hX.out, hb.out⟩
          case measure => simp [intOf] <;> omega
    · obtain rfl : i = n := by omega
      rw [stL_end] at hO
      replace hO := hid hO
      replace hX := hid hX
      replace hb := hid hb
      go_wp2_with fail
      go_ret
      exact ⟨_, rfl, hO.out.mono (by omega), hb.out⟩


end Go.Proofs.Ytgibgcjpehcemaa
