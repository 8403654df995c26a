/- Contracts: compositions, inverses, flips, descents and starts, of the program and of the reference. -/
import Derived.Test.YtmeccemnmkobbaaWpa
namespace Go.Proofs.Ytmeccemnmkobbaa
open Go.RowKit

def hasF (l : List Int) (x : Int) : Bool := (List.range l.length).any fun j => nth l j == x

set_option maxRecDepth 100000 in
set_option maxHeartbeats 1000000 in
theorem has_spec (v : Value) (l : List Int) (x : Int) (w : World) (h : Reads w v (ints l)) :
    Calls Try.prog 132 #[v, .int .i64 x] w fun e w' => e = .returned (.bool (hasF l x)) ∧ w = w' := by
  have hs := h.small
  have hlen := h.len (P := Try.prog) 32 3 ⟨_, sliceI⟩
  simp only [length_ints] at hs hlen
  go_enter Try.func132, Try.ntmps132
  go_wp2_with fail
  go_loop [5] (fun i => ∃ k : Nat, k ≤ l.length ∧ i = .int .i64 k ∧ ((List.range k).any fun j => nth l j == x) = false) (fun i => l.length - (intOf i).toNat)
  case atStart => exact ⟨0, by omega, rfl, rfl⟩
  case round =>
    obtain ⟨k, hk, rfl, hno⟩ := hrel
    by_cases hlt : k < l.length
    · have hi := h.idx 32 sliceI sizeI .i64 k (by omega) (by simpa using hlt)
      simp only [Int.toNat_natCast] at hi
      have hc := h.int hlt
      cases e : nth l k == x with
      | true =>
        have hyes : hasF l x = true := by unfold hasF; rw [List.any_eq_true]; exact ⟨k, by simpa using hlt, e⟩
        go_wp2_with fail
        go_ret
        exact ⟨by first | rfl | (rw [hyes]; rfl), rfl⟩
      | false =>
        have hno2 : ((List.range (k + 1)).any fun j => nth l j == x) = false := by rw [List.range_succ, List.any_append, hno]; simp [e]
        have hid1 := hid hno; have hid2 := hid hno2
        clear hno hno2
        go_wp2_with fail
        go_round
        case rel => exact ⟨k + 1, by omega, by go_num, hid2.out⟩
        case measure => simp [intOf]; omega
    · obtain rfl : k = l.length := by omega
      go_wp2_with fail
      go_ret
      exact ⟨by unfold hasF; rw [hno]; rfl, rfl⟩

set_option maxRecDepth 100000 in
set_option maxHeartbeats 1000000 in
theorem comp_impl (v u : Value) (l m : List Int) (w : World) (h : Reads w v (ints l)) (h' : Reads w u (ints m)) (hl : l.length ≤ 1048576) (hr : ∀ i, i < l.length → 0 ≤ nth l i ∧ nth l i < m.length) :
    Calls Try.prog 122 #[v, u] w fun e w' => ∃ x, e = .returned x ∧ Own w' w.heap.size 2 x (ints (compF l m)) ∧ Below w.heap.size w w' := by
  have hs := h.small
  have hlen := h.len (P := Try.prog) 32 3 ⟨_, sliceI⟩
  simp only [length_ints] at hs hlen
  have h's := h'.small
  have h'len := h'.len (P := Try.prog) 32 3 ⟨_, sliceI⟩
  simp only [length_ints] at h's h'len
  have hmk := make_run sliceI infoI rfl l.length (by omega) (by omega) (by omega)
  simp only [Int.toNat_natCast] at hmk
  go_enter Try.func122, Try.ntmps122
  go_wp2_with fail
  go_loopw [6, 7, 13] (fun _ _ i wr => ∃ k : Nat, k ≤ l.length ∧ i = .int .i64 k ∧ Own wr w.heap.size 2 (madeV w l.length) (ints ((l.take k).map (fun k => nth m k.toNat) ++ List.replicate (l.length - k) 0)) ∧ Below w.heap.size w wr) (fun _ _ i _ => l.length - (intOf i).toNat)
  case atStart =>
    refine ⟨0, by omega, rfl, ?_, below_made _ _ _ _⟩
    have := own_made w 2 l.length (.int .i64 0) (by omega) (Nat.le_refl _)
    simpa [ints] using this
  case round =>
    obtain ⟨k, hk, rfl, hown, hb⟩ := hrel
    by_cases hlt : k < l.length
    · obtain ⟨r0, r1⟩ := hr k hlt
      have hi := h.idx 32 sliceI sizeI .i64 k (by omega) (by simpa using hlt)
      simp only [Int.toNat_natCast] at hi
      have hi2 := h'.idx 32 sliceI sizeI .i64 (nth l k) r0 (by simpa using r1)
      have hi3 := hown.reads.idx 32 sliceI sizeI .i64 k (by omega) (by simp; omega)
      simp only [Int.toNat_natCast] at hi3
      have hc := (h.below hb).int hlt
      have hc2 := (h'.below hb).int (i := (nth l k).toNat) (by omega)
      have hd := hown.reads.cell k _ (ints_at (by simp; omega))
      have hf := hown.frozen (i := k) (by simp; omega)
      have hab := (hown.adr_blk (i := k) (by simp; omega)).2.1
      have hst := hown.set (i := k) (by simp; omega) (.int .i64 (nth m (nth l k).toNat))
      rw [ints_set, map_step l (fun k => nth m k.toNat) hlt] at hst
      clear hr
      go_wp2_with fail
      go_roundw
      case rel => exact ⟨k + 1, by omega, by go_num, hst, hb.setCell hab _⟩
      case measure => simp [intOf]; omega
    · clear hr
      obtain rfl : k = l.length := by omega
      go_wp2_with fail
      go_ret
      exact ⟨_, rfl, by simpa [compF] using hown, hb⟩

set_option maxRecDepth 100000 in
set_option maxHeartbeats 1000000 in
theorem inv_spec4 (v : Value) (l : List Int) (w : World) (h : Reads w v (ints l)) (hl : l.length ≤ 1048576) (hr : ∀ i, i < l.length → 0 ≤ nth l i ∧ nth l i < l.length) :
    Calls Try.prog 140 #[v] w fun e w' => ∃ x, e = .returned x ∧ Own w' w.heap.size 2 x (ints (invF l)) ∧ Below w.heap.size w w' := by
  have hs := h.small
  have hlen := h.len (P := Try.prog) 32 3 ⟨_, sliceI⟩
  simp only [length_ints] at hs hlen
  have hmk := make_run sliceI infoI rfl l.length (by omega) (by omega) (by omega)
  simp only [Int.toNat_natCast] at hmk
  go_enter Try.func140, Try.ntmps140
  go_wp2_with fail
  go_loopw [4] (fun i wr => ∃ k : Nat, k ≤ l.length ∧ i = .int .i64 k ∧ Own wr w.heap.size 2 (madeV w l.length) (ints (invTo l k)) ∧ Below w.heap.size w wr) (fun i _ => l.length - (intOf i).toNat)
  case atStart =>
    refine ⟨0, by omega, rfl, ?_, below_made _ _ _ _⟩
    have := own_made w 2 l.length (.int .i64 0) (by omega) (Nat.le_refl _)
    simpa [ints, invTo] using this
  case round =>
    obtain ⟨k, hk, rfl, hown, hb⟩ := hrel
    by_cases hlt : k < l.length
    · obtain ⟨r0, r1⟩ := hr k hlt
      have hi := h.idx 32 sliceI sizeI .i64 k (by omega) (by simpa using hlt)
      simp only [Int.toNat_natCast] at hi
      have hi3 := hown.reads.idx 32 sliceI sizeI .i64 (nth l k) r0 (by simp; omega)
      have hc := (h.below hb).int hlt
      have hd := hown.reads.cell (nth l k).toNat _ (ints_at (by simp; omega))
      have hf := hown.frozen (i := (nth l k).toNat) (by simp; omega)
      have hab := (hown.adr_blk (i := (nth l k).toNat) (by simp; omega)).2.1
      have hst := hown.set (i := (nth l k).toNat) (by simp; omega) (.int .i64 k)
      rw [ints_set] at hst
      clear hr
      go_wp2_with fail
      go_roundw
      case rel => exact ⟨k + 1, by omega, by go_num, hst, hb.setCell hab _⟩
      case measure => simp [intOf]; omega
    · clear hr
      obtain rfl : k = l.length := by omega
      go_wp2_with fail
      go_ret
      exact ⟨_, rfl, hown, hb⟩

set_option maxRecDepth 100000 in
set_option maxHeartbeats 1000000 in
theorem inv_impl (v : Value) (l : List Int) (w : World) (h : Reads w v (ints l)) (hl : l.length ≤ 1048576) (hr : ∀ i, i < l.length → 0 ≤ nth l i ∧ nth l i < l.length) :
    Calls Try.prog 112 #[v] w fun e w' => ∃ x, e = .returned x ∧ Own w' w.heap.size 2 x (ints (invF l)) ∧ Below w.heap.size w w' := by
  have hs := h.small
  have hlen := h.len (P := Try.prog) 32 3 ⟨_, sliceI⟩
  simp only [length_ints] at hs hlen
  have hmk := make_run sliceI infoI rfl l.length (by omega) (by omega) (by omega)
  simp only [Int.toNat_natCast] at hmk
  go_enter Try.func112, Try.ntmps112
  go_wp2_with fail
  go_loopw [4, 5, 11] (fun _ _ i wr => ∃ k : Nat, k ≤ l.length ∧ i = .int .i64 k ∧ Own wr w.heap.size 2 (madeV w l.length) (ints (invTo l k)) ∧ Below w.heap.size w wr) (fun _ _ i _ => l.length - (intOf i).toNat)
  case atStart =>
    refine ⟨0, by omega, rfl, ?_, below_made _ _ _ _⟩
    have := own_made w 2 l.length (.int .i64 0) (by omega) (Nat.le_refl _)
    simpa [ints, invTo] using this
  case round =>
    obtain ⟨k, hk, rfl, hown, hb⟩ := hrel
    by_cases hlt : k < l.length
    · obtain ⟨r0, r1⟩ := hr k hlt
      have hi := h.idx 32 sliceI sizeI .i64 k (by omega) (by simpa using hlt)
      simp only [Int.toNat_natCast] at hi
      have hi3 := hown.reads.idx 32 sliceI sizeI .i64 (nth l k) r0 (by simp; omega)
      have hc := (h.below hb).int hlt
      have hd := hown.reads.cell (nth l k).toNat _ (ints_at (by simp; omega))
      have hf := hown.frozen (i := (nth l k).toNat) (by simp; omega)
      have hab := (hown.adr_blk (i := (nth l k).toNat) (by simp; omega)).2.1
      have hst := hown.set (i := (nth l k).toNat) (by simp; omega) (.int .i64 k)
      rw [ints_set] at hst
      clear hr
      go_wp2_with fail
      go_roundw
      case rel => exact ⟨k + 1, by omega, by go_num, hst, hb.setCell hab _⟩
      case measure => simp [intOf]; omega
    · clear hr
      obtain rfl : k = l.length := by omega
      go_wp2_with fail
      go_ret
      exact ⟨_, rfl, hown, hb⟩

set_option maxRecDepth 100000 in
set_option maxHeartbeats 1000000 in
theorem flip_spec (v : Value) (l : List Int) (w : World) (h : Reads w v (ints l)) (hl : l.length ≤ 1048576) (hr : ∀ i, i < l.length → 0 ≤ nth l i ∧ nth l i < l.length) :
    Calls Try.prog 131 #[v] w fun e w' => ∃ x, e = .returned x ∧ Own w' w.heap.size 2 x (ints (flipF l)) ∧ Below w.heap.size w w' := by
  have hs := h.small
  have hlen := h.len (P := Try.prog) 32 3 ⟨_, sliceI⟩
  simp only [length_ints] at hs hlen
  have hmk := make_run sliceI infoI rfl l.length (by omega) (by omega) (by omega)
  simp only [Int.toNat_natCast] at hmk
  go_enter Try.func131, Try.ntmps131
  go_wp2_with fail
  go_loopw [5] (fun i wr => ∃ k : Nat, k ≤ l.length ∧ i = .int .i64 k ∧ Own wr w.heap.size 2 (madeV w l.length) (ints ((List.range k).map (fun i : Nat => (l.length : Int) - 1 - nth l (l.length - 1 - i)) ++ List.replicate (l.length - k) 0)) ∧ Below w.heap.size w wr) (fun i _ => l.length - (intOf i).toNat)
  case atStart =>
    refine ⟨0, by omega, rfl, ?_, below_made _ _ _ _⟩
    have := own_made w 2 l.length (.int .i64 0) (by omega) (Nat.le_refl _)
    simpa [ints] using this
  case round =>
    obtain ⟨k, hk, rfl, hown, hb⟩ := hrel
    by_cases hlt : k < l.length
    · obtain ⟨r0, r1⟩ := hr (l.length - 1 - k) (by omega)
      have hi := h.idx 32 sliceI sizeI .i64 ((l.length : Int) - 1 - k) (by omega) (by simp; omega)
      rw [show ((l.length : Int) - 1 - k).toNat = l.length - 1 - k by omega] at hi
      have hi3 := hown.reads.idx 32 sliceI sizeI .i64 k (by omega) (by simp; omega)
      simp only [Int.toNat_natCast] at hi3
      have hc := (h.below hb).int (i := l.length - 1 - k) (by omega)
      have hd := hown.reads.cell k _ (ints_at (by simp; omega))
      have hf := hown.frozen (i := k) (by simp; omega)
      have hab := (hown.adr_blk (i := k) (by simp; omega)).2.1
      have hst := hown.set (i := k) (by simp; omega) (.int .i64 ((l.length : Int) - 1 - nth l (l.length - 1 - k)))
      rw [ints_set, fill_step l.length (fun i : Nat => (l.length : Int) - 1 - nth l (l.length - 1 - i)) hlt] at hst
      clear hr
      go_wp2_with fail
      go_roundw
      case rel => exact ⟨k + 1, by omega, by go_num, hst, hb.setCell hab _⟩
      case measure => simp [intOf]; omega
    · clear hr
      obtain rfl : k = l.length := by omega
      go_wp2_with fail
      go_ret
      exact ⟨_, rfl, by simpa [flipF] using hown, hb⟩

set_option maxRecDepth 100000 in
set_option maxHeartbeats 1000000 in
theorem flip_impl (v : Value) (l : List Int) (w : World) (h : Reads w v (ints l)) (hl : l.length ≤ 1048576) (hr : ∀ i, i < l.length → 0 ≤ nth l i ∧ nth l i < l.length) :
    Calls Try.prog 76 #[v] w fun e w' => ∃ x, e = .returned x ∧ Own w' w.heap.size 2 x (ints (flipF l)) ∧ Below w.heap.size w w' := by
  have hs := h.small
  have hlen := h.len (P := Try.prog) 32 3 ⟨_, sliceI⟩
  simp only [length_ints] at hs hlen
  have hmk := make_run sliceI infoI rfl l.length (by omega) (by omega) (by omega)
  simp only [Int.toNat_natCast] at hmk
  go_enter Try.func76, Try.ntmps76
  go_wp2_with fail
  go_loopw [5, 12] (fun _ i wr => ∃ k : Nat, k ≤ l.length ∧ i = .int .i64 k ∧ Own wr w.heap.size 2 (madeV w l.length) (ints ((List.range k).map (fun i : Nat => (l.length : Int) - 1 - nth l (l.length - 1 - i)) ++ List.replicate (l.length - k) 0)) ∧ Below w.heap.size w wr) (fun _ i _ => l.length - (intOf i).toNat)
  case atStart =>
    refine ⟨0, by omega, rfl, ?_, below_made _ _ _ _⟩
    have := own_made w 2 l.length (.int .i64 0) (by omega) (Nat.le_refl _)
    simpa [ints] using this
  case round =>
    obtain ⟨k, hk, rfl, hown, hb⟩ := hrel
    by_cases hlt : k < l.length
    · obtain ⟨r0, r1⟩ := hr (l.length - 1 - k) (by omega)
      have hi := h.idx 32 sliceI sizeI .i64 ((l.length : Int) - 1 - k) (by omega) (by simp; omega)
      rw [show ((l.length : Int) - 1 - k).toNat = l.length - 1 - k by omega] at hi
      have hi3 := hown.reads.idx 32 sliceI sizeI .i64 k (by omega) (by simp; omega)
      simp only [Int.toNat_natCast] at hi3
      have hc := (h.below hb).int (i := l.length - 1 - k) (by omega)
      have hd := hown.reads.cell k _ (ints_at (by simp; omega))
      have hf := hown.frozen (i := k) (by simp; omega)
      have hab := (hown.adr_blk (i := k) (by simp; omega)).2.1
      have hst := hown.set (i := k) (by simp; omega) (.int .i64 ((l.length : Int) - 1 - nth l (l.length - 1 - k)))
      rw [ints_set, fill_step l.length (fun i : Nat => (l.length : Int) - 1 - nth l (l.length - 1 - i)) hlt] at hst
      clear hr
      go_wp2_with fail
      go_roundw
      case rel => exact ⟨k + 1, by omega, by go_num, hst, hb.setCell hab _⟩
      case measure => simp [intOf]; omega
    · clear hr
      obtain rfl : k = l.length := by omega
      go_wp2_with fail
      go_ret
      exact ⟨_, rfl, by simpa [flipF] using hown, hb⟩

end Go.Proofs.Ytmeccemnmkobbaa
