/- Contracts: the exported functions on one or two permutations that first test them. -/
import Derived.Test.YtcoofebpklolnaaWpd
namespace Go.Proofs.Ytcoofebpklolnaa
open Go.RowKit

/-- a result that is nil where the test fails -/
def onlyIf (b : Bool) (l : List Int) : List Int := if b = true then l else []
theorem own_nil (w : World) (B : Nat) (e : TypeId) : Own w B e (.slice none 0 0) [] := .inl ⟨rfl, rfl⟩
theorem IsPerm.range {l : List Int} (h : IsPerm l) : ∀ i, i < l.length → 0 ≤ nth l i ∧ nth l i < l.length := fun _ hi => ⟨h.lo hi, h.hi hi⟩
theorem length_invF_le {l : List Int} {n : Nat} (h : l.length ≤ n) : (invF l).length ≤ n := by simpa using h

set_option maxHeartbeats 1000000 in
theorem InvertS (v : Value) (l : List Int) (w : World) (h : Reads w v (ints l)) :
    Calls Try.prog 29 #[v] w fun e w' => ∃ x, e = .returned x ∧ Own w' w.heap.size 2 x (ints (onlyIf (okP l) (invF l))) ∧ Below w.heap.size w w' := by
  cases e1 : okP l with
  | false =>
    go_enter Try.func29, Try.ntmps29
    go_wp2_with fail
    refine (ok_spec _ _ _ h).mono ?_
    rintro e w1 ⟨rfl, hb⟩
    rw [e1]
    go_wp2_with fail
    go_ret
    exact ⟨_, rfl, own_nil _ _ _, hb⟩
  | true =>
    obtain ⟨h12, hp⟩ := okP_of e1
    have hP := hid hp.range
    clear hp
    go_enter Try.func29, Try.ntmps29
    go_wp2_with fail
    refine (ok_spec _ _ _ h).mono ?_
    rintro e w1 ⟨rfl, hb⟩
    rw [e1]
    go_wp2_with fail
    refine (inv_spec _ _ _ (h.below hb) (by omega) hP.out).mono ?_
    rintro e w2 ⟨x, rfl, hown, hb2⟩
    go_wp2_with fail
    go_ret
    exact ⟨_, rfl, hown.mono hb.size, hb.trans (hb2.mono hb.size)⟩

set_option maxHeartbeats 1000000 in
theorem InvertI (v : Value) (l : List Int) (w : World) (h : Reads w v (ints l)) :
    Calls Try.prog 30 #[v] w fun e w' => ∃ x, e = .returned x ∧ Own w' w.heap.size 2 x (ints (onlyIf (okP l) (invF l))) ∧ Below w.heap.size w w' := by
  cases e1 : okP l with
  | false =>
    go_enter Try.func30, Try.ntmps30
    go_wp2_with fail
    refine (ok_impl _ _ _ h).mono ?_
    rintro e w1 ⟨rfl, hb⟩
    rw [e1]
    go_wp2_with fail
    go_ret
    exact ⟨_, rfl, own_nil _ _ _, hb⟩
  | true =>
    obtain ⟨h12, hp⟩ := okP_of e1
    have hP := hid hp.range
    clear hp
    go_enter Try.func30, Try.ntmps30
    go_wp2_with fail
    refine (ok_impl _ _ _ h).mono ?_
    rintro e w1 ⟨rfl, hb⟩
    rw [e1]
    go_wp2_with fail
    refine (inv_impl _ _ _ (h.below hb) (by omega) hP.out).mono ?_
    rintro e w2 ⟨x, rfl, hown, hb2⟩
    go_wp2_with fail
    go_ret
    exact ⟨_, rfl, hown.mono hb.size, hb.trans (hb2.mono hb.size)⟩

set_option maxHeartbeats 1000000 in
theorem FlipS (v : Value) (l : List Int) (w : World) (h : Reads w v (ints l)) :
    Calls Try.prog 33 #[v] w fun e w' => ∃ x, e = .returned x ∧ Own w' w.heap.size 2 x (ints (onlyIf (okP l) (flipF l))) ∧ Below w.heap.size w w' := by
  cases e1 : okP l with
  | false =>
    go_enter Try.func33, Try.ntmps33
    go_wp2_with fail
    refine (perm_spec _ _ _ h).mono ?_
    rintro e w1 ⟨rfl, hb⟩
    rw [e1]
    go_wp2_with fail
    go_ret
    exact ⟨_, rfl, own_nil _ _ _, hb⟩
  | true =>
    obtain ⟨h12, hp⟩ := okP_of e1
    have hP := hid hp.range
    clear hp
    go_enter Try.func33, Try.ntmps33
    go_wp2_with fail
    refine (perm_spec _ _ _ h).mono ?_
    rintro e w1 ⟨rfl, hb⟩
    rw [e1]
    go_wp2_with fail
    refine (flip_spec _ _ _ (h.below hb) (by omega) hP.out).mono ?_
    rintro e w2 ⟨x, rfl, hown, hb2⟩
    go_wp2_with fail
    go_ret
    exact ⟨_, rfl, hown.mono hb.size, hb.trans (hb2.mono hb.size)⟩

set_option maxHeartbeats 1000000 in
theorem FlipI (v : Value) (l : List Int) (w : World) (h : Reads w v (ints l)) :
    Calls Try.prog 34 #[v] w fun e w' => ∃ x, e = .returned x ∧ Own w' w.heap.size 2 x (ints (onlyIf (okP l) (flipF l))) ∧ Below w.heap.size w w' := by
  cases e1 : okP l with
  | false =>
    go_enter Try.func34, Try.ntmps34
    go_wp2_with fail
    refine (ok_impl _ _ _ h).mono ?_
    rintro e w1 ⟨rfl, hb⟩
    rw [e1]
    go_wp2_with fail
    go_ret
    exact ⟨_, rfl, own_nil _ _ _, hb⟩
  | true =>
    obtain ⟨h12, hp⟩ := okP_of e1
    have hP := hid hp.range
    clear hp
    go_enter Try.func34, Try.ntmps34
    go_wp2_with fail
    refine (ok_impl _ _ _ h).mono ?_
    rintro e w1 ⟨rfl, hb⟩
    rw [e1]
    go_wp2_with fail
    refine (flip_impl _ _ _ (h.below hb) (by omega) hP.out).mono ?_
    rintro e w2 ⟨x, rfl, hown, hb2⟩
    go_wp2_with fail
    go_ret
    exact ⟨_, rfl, hown.mono hb.size, hb.trans (hb2.mono hb.size)⟩

set_option maxHeartbeats 1000000 in
theorem StartS (v : Value) (l : List Int) (w : World) (h : Reads w v (ints l)) :
    Calls Try.prog 39 #[v] w fun e w' => ∃ x, e = .returned x ∧ Own w' w.heap.size 2 x (ints (onlyIf (okP l) (startF l))) ∧ Below w.heap.size w w' := by
  cases e1 : okP l with
  | false =>
    go_enter Try.func39, Try.ntmps39
    go_wp2_with fail
    refine (perm_spec _ _ _ h).mono ?_
    rintro e w1 ⟨rfl, hb⟩
    rw [e1]
    go_wp2_with fail
    go_ret
    exact ⟨_, rfl, own_nil _ _ _, hb⟩
  | true =>
    obtain ⟨h12, hp⟩ := okP_of e1
    have hP := hid hp.range
    clear hp
    go_enter Try.func39, Try.ntmps39
    go_wp2_with fail
    refine (perm_spec _ _ _ h).mono ?_
    rintro e w1 ⟨rfl, hb⟩
    rw [e1]
    go_wp2_with fail
    refine (start_spec _ _ _ (h.below hb) (by omega)).mono ?_
    rintro e w2 ⟨x, rfl, hown, hb2⟩
    go_wp2_with fail
    go_ret
    exact ⟨_, rfl, hown.mono hb.size, hb.trans (hb2.mono hb.size)⟩

set_option maxHeartbeats 1000000 in
theorem StartI (v : Value) (l : List Int) (w : World) (h : Reads w v (ints l)) :
    Calls Try.prog 40 #[v] w fun e w' => ∃ x, e = .returned x ∧ Own w' w.heap.size 2 x (ints (onlyIf (okP l) (startF l))) ∧ Below w.heap.size w w' := by
  cases e1 : okP l with
  | false =>
    go_enter Try.func40, Try.ntmps40
    go_wp2_with fail
    refine (ok_impl _ _ _ h).mono ?_
    rintro e w1 ⟨rfl, hb⟩
    rw [e1]
    go_wp2_with fail
    go_ret
    exact ⟨_, rfl, own_nil _ _ _, hb⟩
  | true =>
    obtain ⟨h12, hp⟩ := okP_of e1
    have hP := hid hp.range
    clear hp
    go_enter Try.func40, Try.ntmps40
    go_wp2_with fail
    refine (ok_impl _ _ _ h).mono ?_
    rintro e w1 ⟨rfl, hb⟩
    rw [e1]
    go_wp2_with fail
    refine (start_impl _ _ _ (h.below hb) (by omega)).mono ?_
    rintro e w2 ⟨x, rfl, hown, hb2⟩
    go_wp2_with fail
    go_ret
    exact ⟨_, rfl, hown.mono hb.size, hb.trans (hb2.mono hb.size)⟩

set_option maxHeartbeats 1000000 in
theorem FinishS (v : Value) (l : List Int) (w : World) (h : Reads w v (ints l)) :
    Calls Try.prog 41 #[v] w fun e w' => ∃ x, e = .returned x ∧ Own w' w.heap.size 2 x (ints (onlyIf (okP l) (startF (invF l)))) ∧ Below w.heap.size w w' := by
  cases e1 : okP l with
  | false =>
    go_enter Try.func41, Try.ntmps41
    go_wp2_with fail
    refine (perm_spec _ _ _ h).mono ?_
    rintro e w1 ⟨rfl, hb⟩
    rw [e1]
    go_wp2_with fail
    go_ret
    exact ⟨_, rfl, own_nil _ _ _, hb⟩
  | true =>
    obtain ⟨h12, hp⟩ := okP_of e1
    have hP := hid hp.range
    clear hp
    go_enter Try.func41, Try.ntmps41
    go_wp2_with fail
    refine (perm_spec _ _ _ h).mono ?_
    rintro e w1 ⟨rfl, hb⟩
    rw [e1]
    go_wp2_with fail
    refine (finish_spec _ _ _ (h.below hb) (by omega) hP.out).mono ?_
    rintro e w2 ⟨x, rfl, hown, hb2⟩
    go_wp2_with fail
    go_ret
    exact ⟨_, rfl, hown.mono hb.size, hb.trans (hb2.mono hb.size)⟩

set_option maxHeartbeats 1000000 in
theorem DescentsI (v : Value) (l : List Int) (w : World) (h : Reads w v (ints l)) :
    Calls Try.prog 28 #[v] w fun e w' => ∃ x, e = .returned x ∧ Own w' w.heap.size 2 x (ints (onlyIf (okP l) (descF l))) ∧ Below w.heap.size w w' := by
  cases e1 : okP l with
  | false =>
    go_enter Try.func28, Try.ntmps28
    go_wp2_with fail
    refine (ok_impl _ _ _ h).mono ?_
    rintro e w1 ⟨rfl, hb⟩
    rw [e1]
    go_wp2_with fail
    go_ret
    exact ⟨_, rfl, own_nil _ _ _, hb⟩
  | true =>
    obtain ⟨h12, hp⟩ := okP_of e1
    have hP := hid hp.range
    clear hp
    go_enter Try.func28, Try.ntmps28
    go_wp2_with fail
    refine (ok_impl _ _ _ h).mono ?_
    rintro e w1 ⟨rfl, hb⟩
    rw [e1]
    go_wp2_with fail
    refine (desc_impl _ _ _ (h.below hb) (by omega)).mono ?_
    rintro e w2 ⟨x, rfl, hown, hb2⟩
    go_wp2_with fail
    go_ret
    exact ⟨_, rfl, hown.mono hb.size, hb.trans (hb2.mono hb.size)⟩

set_option maxHeartbeats 1000000 in
theorem FinishI (v : Value) (l : List Int) (w : World) (h : Reads w v (ints l)) :
    Calls Try.prog 42 #[v] w fun e w' => ∃ x, e = .returned x ∧ Own w' w.heap.size 2 x (ints (onlyIf (okP l) (startF (invF l)))) ∧ Below w.heap.size w w' := by
  cases e1 : okP l with
  | false =>
    go_enter Try.func42, Try.ntmps42
    go_wp2_with fail
    refine (ok_impl _ _ _ h).mono ?_
    rintro e w1 ⟨rfl, hb⟩
    rw [e1]
    go_wp2_with fail
    go_ret
    exact ⟨_, rfl, own_nil _ _ _, hb⟩
  | true =>
    obtain ⟨h12, hp⟩ := okP_of e1
    have hP := hid hp.range
    clear hp
    go_enter Try.func42, Try.ntmps42
    go_wp2_with fail
    refine (ok_impl _ _ _ h).mono ?_
    rintro e w1 ⟨rfl, hb⟩
    rw [e1]
    go_wp2_with fail
    refine (inv_impl _ _ _ (h.below hb) (by omega) hP.out).mono ?_
    rintro e w2 ⟨x, rfl, hown, hb2⟩
    go_wp2_with fail
    refine (start_impl _ _ _ hown.reads (length_invF_le (by omega))).mono ?_
    rintro e w3 ⟨y, rfl, hown3, hb3⟩
    go_wp2_with fail
    go_ret
    exact ⟨_, rfl, hown3.mono (Nat.le_trans hb.size hb2.size), (hb.trans (hb2.mono hb.size)).trans (hb3.mono (Nat.le_trans hb.size hb2.size))⟩

set_option maxHeartbeats 1000000 in
theorem ComposeS (v u : Value) (l m : List Int) (w : World) (h : Reads w v (ints l)) (h' : Reads w u (ints m)) :
    Calls Try.prog 31 #[v, u] w fun e w' => ∃ x, e = .returned (.tuple #[x, .bool (okP l && okP m && decide (l.length = m.length))]) ∧ Own w' w.heap.size 2 x (ints (onlyIf (okP l && okP m && decide (l.length = m.length)) (compF l m))) ∧ Below w.heap.size w w' := by
  cases e1 : (okP l && okP m && decide (l.length = m.length)) with
  | false =>
    go_enter Try.func31, Try.ntmps31
    go_wp2_with fail
    refine (both_spec _ _ _ _ _ h h').mono ?_
    rintro e w1 ⟨rfl, hb⟩
    rw [e1]
    go_wp2_with fail
    go_ret2
    exact ⟨_, rfl, own_nil _ _ _, hb⟩
  | true =>
    have e2 := e1
    simp only [Bool.and_eq_true, decide_eq_true_eq] at e2
    obtain ⟨⟨o1, o2⟩, hl⟩ := e2
    obtain ⟨h12, hp⟩ := okP_of o1
    have hP : Hid (∀ i, i < l.length → 0 ≤ nth l i ∧ nth l i < m.length) := by intro i hi; have := hp.range i hi; omega
    clear hp o1 o2 hl
    go_enter Try.func31, Try.ntmps31
    go_wp2_with fail
    refine (both_spec _ _ _ _ _ h h').mono ?_
    rintro e w1 ⟨rfl, hb⟩
    rw [e1]
    go_wp2_with fail
    refine (comp_spec _ _ _ _ _ (h.below hb) (h'.below hb) (by omega) hP.out).mono ?_
    rintro e w2 ⟨x, rfl, hown, hb2⟩
    go_wp2_with fail
    go_ret2
    exact ⟨_, rfl, hown.mono hb.size, hb.trans (hb2.mono hb.size)⟩

set_option maxHeartbeats 1000000 in
theorem ComposeI (v u : Value) (l m : List Int) (w : World) (h : Reads w v (ints l)) (h' : Reads w u (ints m)) :
    Calls Try.prog 32 #[v, u] w fun e w' => ∃ x, e = .returned (.tuple #[x, .bool (okP l && okP m && decide (l.length = m.length))]) ∧ Own w' w.heap.size 2 x (ints (onlyIf (okP l && okP m && decide (l.length = m.length)) (compF l m))) ∧ Below w.heap.size w w' := by
  cases e1 : (okP l && okP m && decide (l.length = m.length)) with
  | false =>
    go_enter Try.func32, Try.ntmps32
    go_wp2_with fail
    refine (both_impl _ _ _ _ _ h h').mono ?_
    rintro e w1 ⟨rfl, hb⟩
    rw [e1]
    go_wp2_with fail
    go_ret2
    exact ⟨_, rfl, own_nil _ _ _, hb⟩
  | true =>
    have e2 := e1
    simp only [Bool.and_eq_true, decide_eq_true_eq] at e2
    obtain ⟨⟨o1, o2⟩, hl⟩ := e2
    obtain ⟨h12, hp⟩ := okP_of o1
    have hP : Hid (∀ i, i < l.length → 0 ≤ nth l i ∧ nth l i < m.length) := by intro i hi; have := hp.range i hi; omega
    clear hp o1 o2 hl
    go_enter Try.func32, Try.ntmps32
    go_wp2_with fail
    refine (both_impl _ _ _ _ _ h h').mono ?_
    rintro e w1 ⟨rfl, hb⟩
    rw [e1]
    go_wp2_with fail
    refine (comp_impl _ _ _ _ _ (h.below hb) (h'.below hb) (by omega) hP.out).mono ?_
    rintro e w2 ⟨x, rfl, hown, hb2⟩
    go_wp2_with fail
    go_ret2
    exact ⟨_, rfl, hown.mono hb.size, hb.trans (hb2.mono hb.size)⟩

end Go.Proofs.Ytcoofebpklolnaa
