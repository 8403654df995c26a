/- Contracts: the exported functions on one or two permutations that first test them. -/
import Derived.Test.YtgibgcjpehcemaaWpd
namespace Go.Proofs.Ytgibgcjpehcemaa
open Go.RowKit

/-- a result that is nil where the test fails -/
def onlyIf (b : Bool) (l : List Int) : List Int := if b = true then l else []
theorem own_nil (w : World) (B : Nat) (e : TypeId) : Own w B e (.slice none 0 0) [] := .inl ⟨rfl, rfl⟩
theorem IsPerm.range {l : List Int} (h : IsPerm l) : ∀ i, i < l.length → 0 ≤ nth l i ∧ nth l i < l.length := fun _ hi => ⟨h.lo hi, h.hi hi⟩
theorem length_invF_le {l : List Int} {n : Nat} (h : l.length ≤ n) : (invF l).length ≤ n := by simpa using h

set_option maxHeartbeats 1000000 in
theorem InvertI (v : Value) (l : List Int) (w : World) (h : Reads w v (ints l)) :
    Calls Try.prog 34 #[v] w fun e w' => ∃ x, e = .returned x ∧ Own w' w.heap.size 2 x (ints (onlyIf (okP l) (invF l))) ∧ Below w.heap.size w w' := by
  cases e1 : okP l with
  | false =>
    go_enter Try.func34, Try.ntmps34
    go_wp2_with fail
    refine (ok_impl _ _ _ h).mono ?_
    rintro e w1 ⟨rfl, hb⟩
    rw [e1]
    go_wp2_with fail
    go_ret
    exact ⟨_, rfl, own_nil _ _ _, hb⟩
  | true =>
    obtain ⟨h12, hp⟩ := okP_of e1
    have hP := hid hp.range
    clear hp
    go_enter Try.func34, Try.ntmps34
    go_wp2_with fail
    refine (ok_impl _ _ _ h).mono ?_
    rintro e w1 ⟨rfl, hb⟩
    rw [e1]
    go_wp2_with fail
    refine (inv_impl _ _ _ (h.below hb) (by omega) hP.out).mono ?_
    rintro e w2 ⟨x, rfl, hown, hb2⟩
    go_wp2_with fail
    go_ret
    exact ⟨_, rfl, hown.mono hb.size, hb.trans (hb2.mono hb.size)⟩

set_option maxHeartbeats 1000000 in
theorem DescentsI (v : Value) (l : List Int) (w : World) (h : Reads w v (ints l)) :
    Calls Try.prog 38 #[v] w fun e w' => ∃ x, e = .returned x ∧ Own w' w.heap.size 2 x (ints (onlyIf (okP l) (descF l))) ∧ Below w.heap.size w w' := by
  cases e1 : okP l with
  | false =>
    go_enter Try.func38, Try.ntmps38
    go_wp2_with fail
    refine (ok_impl _ _ _ h).mono ?_
    rintro e w1 ⟨rfl, hb⟩
    rw [e1]
    go_wp2_with fail
    go_ret
    exact ⟨_, rfl, own_nil _ _ _, hb⟩
  | true =>
    obtain ⟨h12, hp⟩ := okP_of e1
    have hP := hid hp.range
    clear hp
    go_enter Try.func38, Try.ntmps38
    go_wp2_with fail
    refine (ok_impl _ _ _ h).mono ?_
    rintro e w1 ⟨rfl, hb⟩
    rw [e1]
    go_wp2_with fail
    refine (desc_impl _ _ _ (h.below hb) (by omega)).mono ?_
    rintro e w2 ⟨x, rfl, hown, hb2⟩
    go_wp2_with fail
    go_ret
    exact ⟨_, rfl, hown.mono hb.size, hb.trans (hb2.mono hb.size)⟩

set_option maxHeartbeats 1000000 in
theorem ComposeI (v u : Value) (l m : List Int) (w : World) (h : Reads w v (ints l)) (h' : Reads w u (ints m)) :
    Calls Try.prog 32 #[v, u] w fun e w' => ∃ x, e = .returned (.tuple #[x, .bool (okP l && okP m && decide (l.length = m.length))]) ∧ Own w' w.heap.size 2 x (ints (onlyIf (okP l && okP m && decide (l.length = m.length)) (compF l m))) ∧ Below w.heap.size w w' := by
  cases e1 : (okP l && okP m && decide (l.length = m.length)) with
  | false =>
    go_enter Try.func32, Try.ntmps32
    go_wp2_with fail
    refine (both_impl _ _ _ _ _ h h').mono ?_
    rintro e w1 ⟨rfl, hb⟩
    rw [e1]
    go_wp2_with fail
    go_ret2
    exact ⟨_, rfl, own_nil _ _ _, hb⟩
  | true =>
    have e2 := e1
    simp only [Bool.and_eq_true, decide_eq_true_eq] at e2
    obtain ⟨⟨o1, o2⟩, hl⟩ := e2
    obtain ⟨h12, hp⟩ := okP_of o1
    have hP : Hid (∀ i, i < l.length → 0 ≤ nth l i ∧ nth l i < m.length) := by intro i hi; have := hp.range i hi; omega
    clear hp o1 o2 hl
    go_enter Try.func32, Try.ntmps32
    go_wp2_with fail
    refine (both_impl _ _ _ _ _ h h').mono ?_
    rintro e w1 ⟨rfl, hb⟩
    rw [e1]
    go_wp2_with fail
    refine (comp_impl _ _ _ _ _ (h.below hb) (h'.below hb) (by omega) hP.out).mono ?_
    rintro e w2 ⟨x, rfl, hown, hb2⟩
    go_wp2_with fail
    go_ret2
    exact ⟨_, rfl, hown.mono hb.size, hb.trans (hb2.mono hb.size)⟩

end Go.Proofs.Ytgibgcjpehcemaa
