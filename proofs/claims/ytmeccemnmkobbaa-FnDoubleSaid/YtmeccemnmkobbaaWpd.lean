/- Contracts: start and finish letters; both test functions on two lists; the second test of the reference. -/
import Derived.Test.YtmeccemnmkobbaaWpc
namespace Go.Proofs.Ytmeccemnmkobbaa
open Go.RowKit

theorem length_descF (l : List Int) : (descF l).length ≤ l.length := by
  have := length_listTo (isDesc l) (fun i : Nat => (i : Int)) (l.length - 1)
  unfold descF; omega
theorem nth_descF (l : List Int) {i : Nat} (h : i < (descF l).length) : 0 ≤ nth (descF l) i ∧ nth (descF l) i < l.length := by
  have hm : nth (descF l) i ∈ descF l := by
    have := nth_of h
    exact List.mem_of_getElem? this
  generalize nth (descF l) i = x at *
  simp only [descF, listTo, List.mem_map, List.mem_filter, List.mem_range] at hm
  obtain ⟨j, ⟨hj, _⟩, e⟩ := hm
  omega
/-- the first k numbers one more -/
def bumpTo (l : List Int) (k : Nat) : List Int := (l.take k).map (· + 1) ++ l.drop k
@[simp] theorem length_bumpTo (l : List Int) (k : Nat) : (bumpTo l k).length = l.length := by simp [bumpTo]; omega
theorem nth_bumpTo {l : List Int} {k : Nat} (h : k < l.length) : nth (bumpTo l k) k = nth l k := by
  have : (bumpTo l k)[k]? = l[k]? := by
    unfold bumpTo
    rw [List.getElem?_append_right (by simp; omega), List.getElem?_drop]
    congr 1; simp; omega
  unfold nth; rw [this]
theorem bumpTo_step {l : List Int} {k : Nat} (h : k < l.length) : (bumpTo l k).set k (nth l k + 1) = bumpTo l (k + 1) := by
  unfold bumpTo
  rw [take_succ_map l (· + 1) h, List.set_append_right _ _ (by simp; omega)]
  have : k - ((l.take k).map (· + 1)).length = 0 := by simp; omega
  rw [this, List.drop_eq_getElem_cons h, List.set_cons_zero, List.append_assoc]
  rfl

set_option maxRecDepth 100000 in
set_option maxHeartbeats 1000000 in
theorem start_impl (v : Value) (l : List Int) (w : World) (h : Reads w v (ints l)) (hl : l.length ≤ 1048576) :
    Calls Try.prog 72 #[v] w fun e w' => ∃ x, e = .returned x ∧ Own w' w.heap.size 2 x (ints (startF l)) ∧ Below w.heap.size w w' := by
  rw [startF_descF]
  go_enter Try.func72, Try.ntmps72
  go_wp2_with fail
  refine (desc_impl _ _ _ h hl).mono ?_
  rintro e w1 ⟨x, rfl, hown, hb⟩
  have hll := length_descF l
  have hnn := fun i hi => @nth_descF l i hi
  have hlen := hown.reads.len (P := Try.prog) 32 3 ⟨_, sliceI⟩
  simp only [length_ints] at hlen
  have hN := hid hnn
  clear hnn
  go_wp2_with fail
  go_loopw [4, 9] (fun _ i wr => ∃ k : Nat, k ≤ (descF l).length ∧ i = .int .i64 k ∧ Own wr w.heap.size 2 x (ints (bumpTo (descF l) k)) ∧ Below w.heap.size w wr) (fun _ i _ => (descF l).length - (intOf i).toNat)
  case atStart => exact ⟨0, by omega, rfl, by simpa [bumpTo] using hown, hb⟩
  case round =>
    clear hb hown
    obtain ⟨k, hk, rfl, hown, hb⟩ := hrel
    by_cases hlt : k < (descF l).length
    · obtain ⟨n0, n1⟩ := hN.out k hlt
      have n2 : nth (descF l) k < 1048576 := by omega
      have hi3 := hown.reads.idx 32 sliceI sizeI .i64 k (by omega) (by simp; omega)
      simp only [Int.toNat_natCast] at hi3
      have hd := hown.reads.cell k _ (ints_at (by simp; omega))
      rw [nth_bumpTo hlt] at hd
      have hf := hown.frozen (i := k) (by simp; omega)
      have hab := (hown.adr_blk (i := k) (by simp; omega)).2.1
      have hst := hown.set (i := k) (by simp; omega) (.int .i64 (nth (descF l) k + 1))
      rw [ints_set, bumpTo_step hlt] at hst
      go_wp2_with fail
      go_roundw
      case rel => exact ⟨k + 1, by omega, by go_num, hst, hb.setCell hab _⟩
      case measure => simp [intOf]; omega
    · obtain rfl : k = (descF l).length := by omega
      go_wp2_with fail
      go_ret
      exact ⟨_, rfl, by simpa [bumpTo] using hown, hb⟩

set_option maxRecDepth 100000 in
set_option maxHeartbeats 1000000 in
theorem finish_spec (v : Value) (l : List Int) (w : World) (h : Reads w v (ints l)) (hl : l.length ≤ 1048576) (hr : ∀ i, i < l.length → 0 ≤ nth l i ∧ nth l i < l.length) :
    Calls Try.prog 133 #[v] w fun e w' => ∃ x, e = .returned x ∧ Own w' w.heap.size 2 x (ints (startF (invF l))) ∧ Below w.heap.size w w' := by
  have hR := hid hr
  clear hr
  go_enter Try.func133, Try.ntmps133
  go_wp2_with fail
  refine (inv_spec4 _ _ _ h hl hR.out).mono ?_
  rintro e w1 ⟨x, rfl, hown, hb⟩
  go_wp2_with fail
  refine (start_spec _ _ _ hown.reads (by simpa using hl)).mono ?_
  rintro e w2 ⟨y, rfl, hown2, hb2⟩
  go_wp2_with fail
  go_ret
  exact ⟨_, rfl, hown2.mono hb.size, hb.trans (hb2.mono hb.size)⟩

theorem nth_take {l : List Int} {k j : Nat} (h : j < k) : nth (l.take k) j = nth l j := by simp [nth, h]
theorem has_take_yes {l : List Int} {k : Nat} (hk : k < l.length) (h : hasF (l.take k) (nth l k) = true) : ∃ j, j < k ∧ nth l j = nth l k := by
  obtain ⟨j, hj, e⟩ := seen_yes h
  have hj' : j < k := by simp at hj; omega
  exact ⟨j, hj', by rw [nth_take hj'] at e; exact e⟩
theorem has_take_no {l : List Int} {k : Nat} (hk : k < l.length) (h : hasF (l.take k) (nth l k) = false) : ∀ j, j < k → nth l j ≠ nth l k := by
  intro j hj e
  exact seen_no h j (by simp; omega) (by rw [nth_take hj]; exact e)

set_option maxRecDepth 100000 in
set_option maxHeartbeats 1000000 in
theorem perm_spec (v : Value) (l : List Int) (w : World) (h : Reads w v (ints l)) :
    Calls Try.prog 107 #[v] w fun e w' => e = .returned (.bool (okP l)) ∧ Below w.heap.size w w' := by
  have hs := h.small
  have hlen := h.len (P := Try.prog) 32 3 ⟨_, sliceI⟩
  simp only [length_ints] at hs hlen
  go_enter Try.func107, Try.ntmps107
  go_wp2_with fail
  go_loopw [3] (fun i wr => ∃ k : Nat, k ≤ l.length ∧ i = .int .i64 k ∧ PermTo l k ∧ Below w.heap.size w wr) (fun i _ => l.length - (intOf i).toNat)
  case atStart => exact ⟨0, by omega, rfl, PermTo.zero l, Below.refl _ _⟩
  case round =>
    obtain ⟨k, hk, rfl, hperm, hb⟩ := hrel
    by_cases hlt : k < l.length
    · have hi := h.idx 32 sliceI sizeI .i64 k (by omega) (by simpa using hlt)
      simp only [Int.toNat_natCast] at hi
      have hc := (h.below hb).int hlt
      cases hin : inB (nth l k) 0 ((l.length : Int) - 1) with
      | false =>
        have hno := okP_not (not_perm_range hlt hin)
        go_wp2_with fail
        go_quiet ((go_at_call 98; exact quietS (in_spec _ _ _ _)))
        go_wp2_with fail
        go_ret
        exact ⟨by rw [hno]; rfl, below_drewN hb _⟩
      | true =>
        obtain ⟨x0, x1⟩ := inB_yes hin
        have hsl := h.upto_run sliceI sizeI .i64 k (by omega) (by simp; omega)
        simp only [Int.toNat_natCast] at hsl
        have hup := (h.below hb).upto k (by simp; omega)
        have hup2 : Reads wr (upto v k) (ints (l.take k)) := by simpa [ints, List.map_take] using hup
        clear hup
        have hq := fun n => has_spec (upto v k) (l.take k) (nth l k) (wr.drewN n) (hup2.drewN n)
        have hQ := hid hq
        clear hq
        cases hse : hasF (l.take k) (nth l k) with
        | true =>
          have hno := okP_not (not_perm_seen hlt (has_take_yes hlt hse))
          go_wp2_with fail
          go_quiet ((first | (go_at_call 98; exact quietS (in_spec _ _ _ _)) | (go_at_call 132; exact quietS (hQ.out _))))
          go_wp2_with fail
          go_ret
          exact ⟨by rw [hno]; rfl, below_drewN hb _⟩
        | false =>
          have hp := hperm.succ x0 (by omega) (has_take_no hlt hse)
          go_wp2_with fail
          go_quiet ((first | (go_at_call 98; exact quietS (in_spec _ _ _ _)) | (go_at_call 132; exact quietS (hQ.out _))))
          go_wp2_with fail
          go_roundw
          case rel => exact ⟨k + 1, by omega, by go_num, hp, below_drewN hb _⟩
          case measure => simp [intOf]; omega
    · obtain rfl : k = l.length := by omega
      go_wp2_with fail
      go_ret
      refine ⟨ret_bool ?_, hb⟩
      have hp : IsPerm l := hperm
      rw [Bool.eq_iff_iff]; simp [okP, hp]; omega

end Go.Proofs.Ytmeccemnmkobbaa
