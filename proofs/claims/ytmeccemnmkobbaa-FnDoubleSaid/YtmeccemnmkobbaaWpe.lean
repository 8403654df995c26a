/- Contracts: the exported functions on one or two permutations that first test them. -/
import Derived.Test.YtmeccemnmkobbaaWpd
namespace Go.Proofs.Ytmeccemnmkobbaa
open Go.RowKit

/-- a result that is nil where the test fails -/
def onlyIf (b : Bool) (l : List Int) : List Int := if b = true then l else []
theorem own_nil (w : World) (B : Nat) (e : TypeId) : Own w B e (.slice none 0 0) [] := .inl ⟨rfl, rfl⟩
theorem IsPerm.range {l : List Int} (h : IsPerm l) : ∀ i, i < l.length → 0 ≤ nth l i ∧ nth l i < l.length := fun _ hi => ⟨h.lo hi, h.hi hi⟩
theorem length_invF_le {l : List Int} {n : Nat} (h : l.length ≤ n) : (invF l).length ≤ n := by simpa using h

set_option maxRecDepth 100000 in
set_option maxHeartbeats 1000000 in
theorem FlipI (v : Value) (l : List Int) (w : World) (h : Reads w v (ints l)) :
    Calls Try.prog 28 #[v] w fun e w' => ∃ x, e = .returned x ∧ Own w' w.heap.size 2 x (ints (onlyIf (okP l) (flipF l))) ∧ Below w.heap.size w w' := by
  cases e1 : okP l with
  | false =>
    go_enter Try.func28, Try.ntmps28
    go_wp2_with fail
    refine (ok_impl _ _ _ h).mono ?_
    rintro e w1 ⟨rfl, hb⟩
    rw [e1]
    go_wp2_with fail
    go_ret
    exact ⟨_, rfl, own_nil _ _ _, hb⟩
  | true =>
    obtain ⟨h12, hp⟩ := okP_of e1
    have hP := hid hp.range
    clear hp
    go_enter Try.func28, Try.ntmps28
    go_wp2_with fail
    refine (ok_impl _ _ _ h).mono ?_
    rintro e w1 ⟨rfl, hb⟩
    rw [e1]
    go_wp2_with fail
    refine (flip_impl _ _ _ (h.below hb) (by omega) hP.out).mono ?_
    rintro e w2 ⟨x, rfl, hown, hb2⟩
    go_wp2_with fail
    go_ret
    exact ⟨_, rfl, hown.mono hb.size, hb.trans (hb2.mono hb.size)⟩

set_option maxRecDepth 100000 in
set_option maxHeartbeats 1000000 in
theorem StartI (v : Value) (l : List Int) (w : World) (h : Reads w v (ints l)) :
    Calls Try.prog 24 #[v] w fun e w' => ∃ x, e = .returned x ∧ Own w' w.heap.size 2 x (ints (onlyIf (okP l) (startF l))) ∧ Below w.heap.size w w' := by
  cases e1 : okP l with
  | false =>
    go_enter Try.func24, Try.ntmps24
    go_wp2_with fail
    refine (ok_impl _ _ _ h).mono ?_
    rintro e w1 ⟨rfl, hb⟩
    rw [e1]
    go_wp2_with fail
    go_ret
    exact ⟨_, rfl, own_nil _ _ _, hb⟩
  | true =>
    obtain ⟨h12, hp⟩ := okP_of e1
    have hP := hid hp.range
    clear hp
    go_enter Try.func24, Try.ntmps24
    go_wp2_with fail
    refine (ok_impl _ _ _ h).mono ?_
    rintro e w1 ⟨rfl, hb⟩
    rw [e1]
    go_wp2_with fail
    refine (start_impl _ _ _ (h.below hb) (by omega)).mono ?_
    rintro e w2 ⟨x, rfl, hown, hb2⟩
    go_wp2_with fail
    go_ret
    exact ⟨_, rfl, hown.mono hb.size, hb.trans (hb2.mono hb.size)⟩

end Go.Proofs.Ytmeccemnmkobbaa
