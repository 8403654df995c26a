/- Contracts of the laws' helpers on slices of int64: the copy, the comparison, the marking and the asking for marks. -/
import Derived.Test.YtkgdbobhppmaiaaDoorCore
namespace Go.Proofs.YtkgdbobhppmaiaaDoor
open Go.RowKit

theorem sizeI : (sizeOf 2).run Tryd.prog = fun w => .ok 1 w := by funext w; kernel_rfl
theorem sliceI : Tryd.prog.underlying 35 = some (.slice 2) := by kernel_rfl
theorem infoI : (Tryd.prog.info? 2).map (fun i => (i.zero, i.size, i.bytes)) = some (some (.int .i64 0), 1, 8) := by kernel_rfl

set_option maxRecDepth 100000 in
set_option maxHeartbeats 1000000 in
theorem toI (v : Value) (l : List Int) (w : World) (h : Reads w v (ints l)) (hl : l.length ≤ 1048576) :
    Calls Tryd.prog 61 #[v] w fun e w' => ∃ u, e = .returned u ∧ Own w' w.heap.size 2 u (ints l) ∧ Below w.heap.size w w' := by
  have hlen := h.len (P := Tryd.prog) 35 3 ⟨_, sliceI⟩
  have hmk := make_run sliceI infoI rfl l.length (by omega) (by omega) (by omega)
  simp only [length_ints, Int.toNat_natCast] at hlen hmk
  have hidx := fun (k : Nat) (hk : k < l.length) => h.idx 35 sliceI sizeI .i64 k (by omega) (by simpa using hk)
  simp only [Int.toNat_natCast] at hidx
  go_enter Tryd.func61, Tryd.ntmps61
  go_wp2_with fail
  go_loopw [4] (fun i wr => ∃ k : Nat, k ≤ l.length ∧ i = .int .i64 k ∧ Own wr w.heap.size 2 (madeV w l.length) (ints (l.take k ++ List.replicate (l.length - k) 0)) ∧ Below w.heap.size w wr) (fun i _ => l.length - (intOf i).toNat)
  case atStart =>
    refine ⟨0, by omega, rfl, ?_, below_made _ _ _ _⟩
    have := own_made w 2 l.length (.int .i64 0) (by omega) (Nat.le_refl _)
    simpa [ints] using this
  case round =>
    obtain ⟨k, hk, rfl, hown, hb⟩ := hrel
    by_cases hlt : k < l.length
    · have hi := hidx k hlt
      have hi2 := hown.reads.idx 35 sliceI sizeI .i64 k (by omega) (by simp; omega)
      simp only [Int.toNat_natCast] at hi2
      have hc := (h.below hb).int hlt
      have hd := hown.reads.cell k _ (ints_at (by simp; omega))
      have hf := hown.frozen (i := k) (by simp; omega)
      have hab := (hown.adr_blk (i := k) (by simp; omega)).2.1
      have hst := hown.set (i := k) (by simp; omega) (.int .i64 (nth l k))
      rw [ints_set, copy_step l k hlt] at hst
      clear hidx
      go_wp2_with fail
      go_roundw
      case rel => exact ⟨k + 1, by omega, by go_num, hst, hb.setCell hab _⟩
      case measure => simp [intOf]; omega
    · go_wp2_with fail
      go_ret
      obtain rfl : k = l.length := by omega
      refine ⟨_, rfl, ?_, hb⟩
      simpa using hown


set_option maxRecDepth 100000 in
set_option maxHeartbeats 1000000 in
theorem eqI (v u : Value) (l m : List Int) (w : World) (h : Reads w v (ints l)) (h' : Reads w u (ints m)) :
    Calls Tryd.prog 64 #[v, u] w fun e w' => e = .returned (.bool (decide (l = m))) ∧ Below w.heap.size w w' := by
  have hs := h.small
  have hs' := h'.small
  simp only [length_ints] at hs hs'
  have hlen := h.len (P := Tryd.prog) 35 3 ⟨_, sliceI⟩
  have hlen' := h'.len (P := Tryd.prog) 35 3 ⟨_, sliceI⟩
  simp only [length_ints] at hlen hlen'
  by_cases hne : l.length = m.length
  · have hb : ((l.length : Int) != (m.length : Int)) = false := by simp [hne]
    go_enter Tryd.func64, Tryd.ntmps64
    go_wp2_with fail
    go_loopw [5] (fun i wr => ∃ k : Nat, k ≤ l.length ∧ i = .int .i64 k ∧ (∀ j, j < k → nth l j = nth m j) ∧ Below w.heap.size w wr) (fun i _ => l.length - (intOf i).toNat)
    case atStart =>
      exact ⟨0, by omega, rfl, by omega, Below.refl _ _⟩
    case round =>
      obtain ⟨k, hk, rfl, heq, hb⟩ := hrel
      by_cases hlt : k < l.length
      · have hltm : k < m.length := by omega
        have hi := h.idx 35 sliceI sizeI .i64 k (by omega) (by simpa using hlt)
        have hi2 := h'.idx 35 sliceI sizeI .i64 k (by omega) (by simpa using hltm)
        simp only [Int.toNat_natCast] at hi hi2
        have hc := (h.below hb).int hlt
        have hc2 := (h'.below hb).int hltm
        clear hne
        go_wp2_with fail
        go_quiet (fail)
        go_wp2_with fail
        · go_ret
          have hx := ne_nth ‹_›
          exact ⟨by simp [hx], below_drewN hb _⟩
        · go_roundw
          case rel => exact ⟨k + 1, by omega, by go_num, forall_snoc heq (eq_nth ‹_›), below_drewN hb _⟩
          case measure => simp [intOf]; omega
      · obtain rfl : k = l.length := by omega
        have hx : l = m := ext_nth hne heq
        clear hne
        go_wp2_with fail
        go_ret
        exact ⟨by simp [hx], hb⟩
  · have hx : l ≠ m := fun e => hne (by rw [e])
    have hb : ((l.length : Int) != (m.length : Int)) = true := by rw [bne_iff_ne]; omega
    clear hne
    go_enter Tryd.func64, Tryd.ntmps64
    go_wp2_with fail
    go_ret
    exact ⟨by simp [hx], Below.refl _ _⟩

set_option maxRecDepth 100000 in
set_option maxHeartbeats 1000000 in
theorem markI (v : Value) (l : List Int) (q : Int) (w : World) {B : Nat} (h : Own w B 2 v (ints l)) (hl : l.length ≤ 1099511627776) (q0 : 0 ≤ q) (q1 : q ≤ 1099511627776) :
    Calls Tryd.prog 70 #[v, .int .i64 q] w fun e w' => e = .returned (.int .i64 (q + l.length)) ∧ Own w' B 2 v (ints (marks l.length q)) ∧ w.grownBy w' (blk v) := by
  have hlen := h.reads.len (P := Tryd.prog) 35 3 ⟨_, sliceI⟩
  simp only [length_ints] at hlen
  go_enter Tryd.func70, Tryd.ntmps70
  go_wp2_with fail
  go_loopw [1, 5] (fun q' i wr => ∃ k : Nat, k ≤ l.length ∧ i = .int .i64 k ∧ q' = .int .i64 (q + k) ∧ Own wr B 2 v (ints (marks k q ++ l.drop k)) ∧ w.grownBy wr (blk v)) (fun _ i _ => l.length - (intOf i).toNat)
  case atStart =>
    exact ⟨0, by omega, rfl, by simp, by simpa [marks] using h, grown_refl _ _⟩
  case round =>
    obtain ⟨k, hk, rfl, rfl, hown, hg⟩ := hrel
    have hlk : (marks k q ++ l.drop k).length = l.length := by simp; omega
    by_cases hlt : k < l.length
    · have hi := hown.reads.idx 35 sliceI sizeI .i64 k (by omega) (by simp; omega)
      simp only [Int.toNat_natCast] at hi
      have hd := hown.reads.int (i := k) (by omega)
      have hf := hown.frozen (i := k) (by simp; omega)
      have hab := (hown.adr_blk (i := k) (by simp; omega)).1
      have hst := hown.set (i := k) (by simp; omega) (.int .i64 (q + k))
      rw [ints_set, mark_step l q k hlt] at hst
      clear hlk
      have hab2 := hid hab
      clear hab
      go_wp2_with fail
      go_roundw
      case rel => exact ⟨k + 1, by omega, by go_num, by go_num, hst, grown_set hg hab2.out _⟩
      case measure => simp [intOf]; omega
    · clear hlk
      go_wp2_with fail
      go_ret
      obtain rfl : k = l.length := by omega
      refine ⟨rfl, by simpa using hown, hg⟩

set_option maxRecDepth 100000 in
set_option maxHeartbeats 1000000 in
theorem heldI (v : Value) (n : Nat) (q : Int) (w : World) (h : Reads w v (ints (marks n q))) (hl : n ≤ 1099511627776) (q0 : 0 ≤ q) (q1 : q ≤ 1099511627776) :
    Calls Tryd.prog 71 #[v, .int .i64 q] w fun e w' => e = .returned (.int .i64 (q + n)) ∧ Below w.heap.size w w' := by
  have hlen := h.len (P := Tryd.prog) 35 3 ⟨_, sliceI⟩
  simp only [length_ints, length_marks] at hlen
  go_enter Tryd.func71, Tryd.ntmps71
  go_wp2_with fail
  go_loop [1, 5] (fun q' i => ∃ k : Nat, k ≤ n ∧ i = .int .i64 k ∧ q' = .int .i64 (q + k)) (fun _ i => n - (intOf i).toNat)
  case atStart =>
    exact ⟨0, by omega, rfl, by simp⟩
  case round =>
    obtain ⟨k, hk, rfl, rfl⟩ := hrel
    by_cases hlt : k < n
    · have hi := h.idx 35 sliceI sizeI .i64 k (by omega) (by simp; omega)
      simp only [Int.toNat_natCast] at hi
      have hd := h.int (i := k) (by simp; omega)
      rw [nth_marks hlt] at hd
      have hne : (q + (k : Int) != q + (k : Int)) = false := by simp
      go_wp2_with fail
      go_round
      case rel => exact ⟨k + 1, by omega, by go_num, by go_num⟩
      case measure => simp [intOf]; omega
    · go_wp2_with fail
      go_ret
      obtain rfl : k = n := by omega
      exact ⟨rfl, Below.refl _ _⟩

end Go.Proofs.YtkgdbobhppmaiaaDoor
