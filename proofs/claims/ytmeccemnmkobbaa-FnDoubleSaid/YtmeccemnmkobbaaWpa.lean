/- Contracts: the tests for permutations, of the program and of the reference. -/
import Derived.Test.YtmeccemnmkobbaaPer
namespace Go.Proofs.Ytmeccemnmkobbaa
open Go.RowKit

theorem sizeB : (sizeOf 4).run Try.prog = fun w => .ok 1 w := by funext w; kernel_rfl
theorem sliceB : Try.prog.underlying 101 = some (.slice 4) := by kernel_rfl
theorem infoB : (Try.prog.info? 4).map (fun i => (i.zero, i.size, i.bytes)) = some (some (.bool false), 1, 1) := by kernel_rfl

set_option maxRecDepth 100000 in
set_option maxHeartbeats 1000000 in
theorem ok_spec (v : Value) (l : List Int) (w : World) (h : Reads w v (ints l)) :
    Calls Try.prog 69 #[v] w fun e w' => e = .returned (.bool (okP l)) ∧ Below w.heap.size w w' := by
  have hs := h.small
  have hlen := h.len (P := Try.prog) 32 3 ⟨_, sliceI⟩
  simp only [length_ints] at hlen hs
  by_cases h12 : l.length ≤ 12
  · have hmk := make_run sliceB infoB rfl l.length (by omega) (by omega) (by omega)
    simp only [Int.toNat_natCast] at hmk
    go_enter Try.func69, Try.ntmps69
    go_wp2_with fail
    go_loopw [4] (fun i wr => ∃ k : Nat, k ≤ l.length ∧ i = .int .i64 k ∧ PermTo l k ∧ Own wr w.heap.size 4 (madeV w l.length) (bools (seenTo l l.length k)) ∧ Below w.heap.size w wr) (fun i _ => l.length - (intOf i).toNat)
    case atStart =>
      refine ⟨0, by omega, rfl, PermTo.zero l, ?_, below_made _ _ _ _⟩
      have := own_made w 4 l.length (.bool false) (by omega) (Nat.le_refl _)
      rw [seenTo_zero]; simpa [bools] using this
    case round =>
      obtain ⟨k, hk, rfl, hperm, hown, hb⟩ := hrel
      by_cases hlt : k < l.length
      · have hi := h.idx 32 sliceI sizeI .i64 k (by omega) (by simpa using hlt)
        simp only [Int.toNat_natCast] at hi
        have hc := (h.below hb).int hlt
        cases hin : inB (nth l k) 0 ((l.length : Int) - 1) with
        | false =>
          have hno := okP_not (not_perm_range hlt hin)
          go_wp2_with (go_at_call 98; refine (in_spec _ _ _ _).mono ?_; rintro e w' ⟨rfl, rfl⟩)
          go_ret
          exact ⟨by rw [hno]; rfl, hb⟩
        | true =>
          obtain ⟨x0, x1⟩ := inB_yes hin
          have hi2 := hown.reads.idx 101 sliceB sizeB .i64 (nth l k) x0 (by simp; omega)
          have hd := hown.reads.cell (nth l k).toNat _ (bools_at (seenTo_at l l.length k x0 (by omega)))
          cases hse : ((List.range k).any fun j => nth l j == nth l k) with
          | true =>
            have hno := okP_not (not_perm_seen hlt (seen_yes hse))
            rw [hse] at hd
            go_wp2_with (go_at_call 98; refine (in_spec _ _ _ _).mono ?_; rintro e w' ⟨rfl, rfl⟩)
            go_ret
            exact ⟨by rw [hno]; rfl, hb⟩
          | false =>
            have hp := hperm.succ x0 (by omega) (seen_no hse)
            rw [hse] at hd
            have hf := hown.frozen (i := (nth l k).toNat) (by simp; omega)
            have hab := (hown.adr_blk (i := (nth l k).toNat) (by simp; omega)).2.1
            have hst := hown.set (i := (nth l k).toNat) (by simp; omega) (.bool true)
            rw [bools_set, seenTo_set l l.length k x0 (by omega)] at hst
            go_wp2_with (go_at_call 98; refine (in_spec _ _ _ _).mono ?_; rintro e w' ⟨rfl, rfl⟩)
            go_roundw
            case rel => exact ⟨k + 1, by omega, by go_num, hp, hst, hb.setCell hab _⟩
            case measure => simp [intOf]; omega
      · go_wp2_with fail
        go_ret
        obtain rfl : k = l.length := by omega
        exact ⟨by rw [okP_mk h12 hperm]; rfl, hb⟩
  · have hno := okP_long h12
    go_enter Try.func69, Try.ntmps69
    go_wp2_with fail
    go_ret
    exact ⟨by rw [hno]; rfl, Below.refl _ _⟩

set_option maxRecDepth 100000 in
set_option maxHeartbeats 1000000 in
theorem ok_impl (v : Value) (l : List Int) (w : World) (h : Reads w v (ints l)) :
    Calls Try.prog 58 #[v] w fun e w' => e = .returned (.bool (okP l)) ∧ Below w.heap.size w w' := by
  have hs := h.small
  have hlen := h.len (P := Try.prog) 32 3 ⟨_, sliceI⟩
  simp only [length_ints] at hlen hs
  by_cases h12 : l.length ≤ 12
  · go_enter Try.func58, Try.ntmps58
    go_wp2_with fail
    go_loopw [5, 11] (fun _ i wr => ∃ k : Nat, k ≤ l.length ∧ i = .int .i64 k ∧ PermTo l k ∧ Own wr w.heap.size 94 (arrV w.heap.size 12) (bools (seenTo l 12 k)) ∧ Below w.heap.size w wr) (fun _ i _ => l.length - (intOf i).toNat)
    case atStart =>
      refine ⟨0, by omega, rfl, PermTo.zero l, ?_, (Below.refl _ _).alloc (Nat.le_refl _) _⟩
      rw [seenTo_zero]
      exact own_arr w 94 _ 12 rfl (by omega) (Nat.le_refl _)
    case round =>
      obtain ⟨k, hk, rfl, hperm, hown, hb⟩ := hrel
      by_cases hlt : k < l.length
      · have hi := h.idx 32 sliceI sizeI .i64 k (by omega) (by simpa using hlt)
        simp only [Int.toNat_natCast] at hi
        have hc := (h.below hb).int hlt
        cases hin : inB (nth l k) 0 ((l.length : Int) - 1) with
        | false =>
          have hno := okP_not (not_perm_range hlt hin)
          go_wp2_with (go_at_call 57; refine (in_impl _ _ _ _).mono ?_; rintro e w' ⟨rfl, rfl⟩)
          go_ret
          exact ⟨by rw [hno]; rfl, hb⟩
        | true =>
          obtain ⟨x0, x1⟩ := inB_yes hin
          have x2 : nth l k < 12 := by omega
          have hd := hown.reads.cell (nth l k).toNat _ (bools_at (seenTo_at l 12 k x0 (by omega)))
          rw [adr_arr] at hd
          cases hse : ((List.range k).any fun j => nth l j == nth l k) with
          | true =>
            have hno := okP_not (not_perm_seen hlt (seen_yes hse))
            rw [hse] at hd
            go_wp2_with (go_at_call 57; refine (in_impl _ _ _ _).mono ?_; rintro e w' ⟨rfl, rfl⟩)
            go_ret
            exact ⟨by rw [hno]; rfl, hb⟩
          | false =>
            have hp := hperm.succ x0 (by omega) (seen_no hse)
            rw [hse] at hd
            have hf := hown.frozen (i := (nth l k).toNat) (by simp; omega)
            have hab := (hown.adr_blk (i := (nth l k).toNat) (by simp; omega)).2.1
            have hst := hown.set (i := (nth l k).toNat) (by simp; omega) (.bool true)
            rw [bools_set, seenTo_set l 12 k x0 (by omega)] at hst
            rw [adr_arr] at hf hab hst
            go_wp2_with (go_at_call 57; refine (in_impl _ _ _ _).mono ?_; rintro e w' ⟨rfl, rfl⟩)
            go_roundw
            case rel => exact ⟨k + 1, by omega, by go_num, hp, hst, hb.setCell hab _⟩
            case measure => simp [intOf]; omega
      · go_wp2_with fail
        go_ret
        obtain rfl : k = l.length := by omega
        exact ⟨by rw [okP_mk h12 hperm]; rfl, hb⟩
  · have hno := okP_long h12
    go_enter Try.func58, Try.ntmps58
    go_wp2_with fail
    go_ret
    exact ⟨by rw [hno]; rfl, Below.refl _ _⟩

end Go.Proofs.Ytmeccemnmkobbaa
