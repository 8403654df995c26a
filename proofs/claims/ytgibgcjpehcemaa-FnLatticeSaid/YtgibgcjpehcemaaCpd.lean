/- Contracts: meets and joins of permutations. -/
import Derived.Test.YtgibgcjpehcemaaCpc
import Derived.Test.YtgibgcjpehcemaaWpe
namespace Go.Proofs.Ytgibgcjpehcemaa
open Go.RowKit

theorem rk_bd {E : Nat → Nat → Bool} {n i : Nat} (h : i < n) : 0 ≤ nth (rkL E n) i ∧ nth (rkL E n) i ≤ n := by
  rw [nth_rkL h]; exact ⟨cnt_nonneg _ _, cnt_le _ _⟩
theorem turn_bd {l : List Int} (hp : IsPerm l) {i : Nat} (h : i < (turnF l).length) : 0 ≤ nth (turnF l) i ∧ nth (turnF l) i ≤ (turnF l).length := by
  rw [length_turnF] at h ⊢
  rw [nth_turnF h]
  have h1 := hp.lo h
  have h2 := hp.hi h
  omega
theorem join_pairs {a b : List Int} {f : Nat → Nat → Bool} (h : TabR a.length f (clos (pairR a b true))) : rkL (fun i j => f i j == true) a.length = joinF a b := by
  apply rkL_congr
  intro i j hij hj
  have e : ∀ i j, i < j → j < a.length → pairR a b true i j = orR a b i j := by intro i j _ _; simp [pairR, orR]
  rw [h i j hij hj, clos_congr e hij hj]; simp
theorem meet_pairs {a b : List Int} {f : Nat → Nat → Bool} (h : TabR a.length f (clos (pairR a b false))) : rkL (fun i j => f i j == false) a.length = meetF a b := by
  apply rkL_congr
  intro i j hij hj
  have e : ∀ i j, i < j → j < a.length → pairR a b false i j = norR a b i j := by
    intro i j _ _
    unfold pairR norR
    cases decide (nth a j < nth a i) <;> cases decide (nth b j < nth b i) <;> rfl
  rw [h i j hij hj, clos_congr e hij hj]
  cases clos (norR a b) i j <;> rfl
theorem length_joinF (a b : List Int) : (joinF a b).length = a.length := by simp [joinF]
theorem length_meetF (a b : List Int) : (meetF a b).length = a.length := by simp [meetF]


set_option maxHeartbeats 1000000 in
theorem JoinI (v u : Value) (l m : List Int) (w : World) (h : Reads w v (ints l)) (h' : Reads w u (ints m)) :
    Calls Try.prog 20 #[v, u] w fun e w' => ∃ x, e = .returned (.tuple #[x, .bool (okP l && okP m && decide (l.length = m.length))]) ∧ Own w' w.heap.size 2 x (ints (onlyIf (okP l && okP m && decide (l.length = m.length)) (joinF l m))) ∧ Below w.heap.size w w' := by
  cases e1 : (okP l && okP m && decide (l.length = m.length)) with
  | false =>
    go_enter Try.func20, Try.ntmps20
    go_wp2_with fail
    refine (both_impl _ _ _ _ _ h h').mono ?_
    rintro e w1 ⟨rfl, hb⟩
    rw [e1]
    go_wp2_with fail
    go_ret2
    exact ⟨_, rfl, own_nil _ _ _, hb⟩
  | true =>
    have e2 := e1
    simp only [Bool.and_eq_true, decide_eq_true_eq] at e2
    obtain ⟨⟨o1, o2⟩, hl⟩ := e2
    obtain ⟨h12, hp⟩ := okP_of o1
    obtain ⟨h12', hp'⟩ := okP_of o2
    have hP := hid hp
    have hP' := hid hp'
    replace hl := hid hl
    clear hp hp' o1 o2
    have hlen := h.len (P := Try.prog) 22 3 ⟨_, sliceI⟩
    simp only [length_ints] at hlen
    go_enter Try.func20, Try.ntmps20
    go_wp2_with fail
    refine (both_impl _ _ _ _ _ h h').mono ?_
    rintro e w1 ⟨rfl, hb⟩
    rw [e1]
    go_wp2_with fail
    refine (closed_impl _ _ _ _ _ _ (h.below hb) (h'.below hb) hl.out (by omega)).mono ?_
    rintro e w2 ⟨f, rfl, hf, hb2⟩
    replace hf := hid hf
    go_wp2_with fail
    refine (with_impl l.length f true w2 (by omega)).mono ?_
    rintro e w3 ⟨x, rfl, hown, hb3⟩
    rw [join_pairs hf.out] at hown
    go_wp2_with fail
    go_ret2
    exact ⟨_, rfl, hown.mono (Nat.le_trans hb.size hb2.size), (hb.trans (hb2.mono hb.size)).trans (hb3.mono (Nat.le_trans hb.size hb2.size))⟩


set_option maxHeartbeats 1000000 in
theorem MeetI (v u : Value) (l m : List Int) (w : World) (h : Reads w v (ints l)) (h' : Reads w u (ints m)) :
    Calls Try.prog 22 #[v, u] w fun e w' => ∃ x, e = .returned (.tuple #[x, .bool (okP l && okP m && decide (l.length = m.length))]) ∧ Own w' w.heap.size 2 x (ints (onlyIf (okP l && okP m && decide (l.length = m.length)) (meetF l m))) ∧ Below w.heap.size w w' := by
  cases e1 : (okP l && okP m && decide (l.length = m.length)) with
  | false =>
    go_enter Try.func22, Try.ntmps22
    go_wp2_with fail
    refine (both_impl _ _ _ _ _ h h').mono ?_
    rintro e w1 ⟨rfl, hb⟩
    rw [e1]
    go_wp2_with fail
    go_ret2
    exact ⟨_, rfl, own_nil _ _ _, hb⟩
  | true =>
    have e2 := e1
    simp only [Bool.and_eq_true, decide_eq_true_eq] at e2
    obtain ⟨⟨o1, o2⟩, hl⟩ := e2
    obtain ⟨h12, hp⟩ := okP_of o1
    obtain ⟨h12', hp'⟩ := okP_of o2
    have hP := hid hp
    have hP' := hid hp'
    replace hl := hid hl
    clear hp hp' o1 o2
    have hlen := h.len (P := Try.prog) 22 3 ⟨_, sliceI⟩
    simp only [length_ints] at hlen
    go_enter Try.func22, Try.ntmps22
    go_wp2_with fail
    refine (both_impl _ _ _ _ _ h h').mono ?_
    rintro e w1 ⟨rfl, hb⟩
    rw [e1]
    go_wp2_with fail
    refine (closed_impl _ _ _ _ _ _ (h.below hb) (h'.below hb) hl.out (by omega)).mono ?_
    rintro e w2 ⟨f, rfl, hf, hb2⟩
    replace hf := hid hf
    go_wp2_with fail
    refine (with_impl l.length f false w2 (by omega)).mono ?_
    rintro e w3 ⟨x, rfl, hown, hb3⟩
    rw [meet_pairs hf.out] at hown
    go_wp2_with fail
    go_ret2
    exact ⟨_, rfl, hown.mono (Nat.le_trans hb.size hb2.size), (hb.trans (hb2.mono hb.size)).trans (hb3.mono (Nat.le_trans hb.size hb2.size))⟩


set_option maxHeartbeats 1000000 in
theorem JoinS (v u : Value) (l m : List Int) (w : World) (h : Reads w v (ints l)) (h' : Reads w u (ints m)) :
    Calls Try.prog 19 #[v, u] w fun e w' => ∃ x, e = .returned (.tuple #[x, .bool (okP l && okP m && decide (l.length = m.length))]) ∧ Own w' w.heap.size 2 x (ints (onlyIf (okP l && okP m && decide (l.length = m.length)) (joinF l m))) ∧ Below w.heap.size w w' := by
  cases e1 : (okP l && okP m && decide (l.length = m.length)) with
  | false =>
    go_enter Try.func19, Try.ntmps19
    go_wp2_with fail
    refine (both_spec _ _ _ _ _ h h').mono ?_
    rintro e w1 ⟨rfl, hb⟩
    rw [e1]
    go_wp2_with fail
    go_ret2
    exact ⟨_, rfl, own_nil _ _ _, hb⟩
  | true =>
    have e2 := e1
    simp only [Bool.and_eq_true, decide_eq_true_eq] at e2
    obtain ⟨⟨o1, o2⟩, hl⟩ := e2
    obtain ⟨h12, hp⟩ := okP_of o1
    obtain ⟨h12', hp'⟩ := okP_of o2
    have hP := hid hp
    have hP' := hid hp'
    replace hl := hid hl
    clear hp hp' o1 o2
    go_enter Try.func19, Try.ntmps19
    go_wp2_with fail
    refine (both_spec _ _ _ _ _ h h').mono ?_
    rintro e w1 ⟨rfl, hb⟩
    rw [e1]
    go_wp2_with fail
    refine (close_spec _ _ _ _ _ (h.below hb) (h'.below hb) hl.out (by omega)).mono ?_
    rintro e w2 ⟨x, rfl, hown, hb2⟩
    go_wp2_with fail
    go_ret2
    exact ⟨_, rfl, hown.mono hb.size, hb.trans (hb2.mono hb.size)⟩


set_option maxHeartbeats 1000000 in
theorem MeetS (v u : Value) (l m : List Int) (w : World) (h : Reads w v (ints l)) (h' : Reads w u (ints m)) :
    Calls Try.prog 21 #[v, u] w fun e w' => ∃ x, e = .returned (.tuple #[x, .bool (okP l && okP m && decide (l.length = m.length))]) ∧ Own w' w.heap.size 2 x (ints (onlyIf (okP l && okP m && decide (l.length = m.length)) (meetF l m))) ∧ Below w.heap.size w w' := by
  cases e1 : (okP l && okP m && decide (l.length = m.length)) with
  | false =>
    go_enter Try.func21, Try.ntmps21
    go_wp2_with fail
    refine (both_spec _ _ _ _ _ h h').mono ?_
    rintro e w1 ⟨rfl, hb⟩
    rw [e1]
    go_wp2_with fail
    go_ret2
    exact ⟨_, rfl, own_nil _ _ _, hb⟩
  | true =>
    have e2 := e1
    simp only [Bool.and_eq_true, decide_eq_true_eq] at e2
    obtain ⟨⟨o1, o2⟩, hl⟩ := e2
    obtain ⟨h12, hp⟩ := okP_of o1
    obtain ⟨h12', hp'⟩ := okP_of o2
    have hP := hid hp
    have hP' := hid hp'
    replace hl := hid hl
    clear hp hp' o1 o2
    go_enter Try.func21, Try.ntmps21
    go_wp2_with fail
    refine (both_spec _ _ _ _ _ h h').mono ?_
    rintro e w1 ⟨rfl, hb⟩
    rw [e1]
    go_wp2_with fail
    refine (turn_spec _ _ _ (h.below hb) (by omega) (fun i hi => ⟨hP.out.lo hi, by have := hP.out.hi hi; omega⟩)).mono ?_
    rintro e w2 ⟨x, rfl, hx, hb2⟩
    have hc2 := hb.trans (hb2.mono hb.size)
    go_wp2_with fail
    refine (turn_spec _ _ _ (h'.below hc2) (by omega) (fun i hi => ⟨hP'.out.lo hi, by have := hP'.out.hi hi; omega⟩)).mono ?_
    rintro e w3 ⟨y, rfl, hy, hb3⟩
    have hc3 := hc2.trans (hb3.mono hc2.size)
    go_wp2_with fail
    refine (close_spec _ _ _ _ _ (hx.reads.below hb3) hy.reads (by simp; exact hl.out) (by simp; omega)).mono ?_
    rintro e w4 ⟨z, rfl, hz, hb4⟩
    have hc4 := hc3.trans (hb4.mono hc3.size)
    go_wp2_with fail
    refine (turn_spec _ _ _ hz.reads (by rw [length_joinF]; simp; omega) (fun i hi => by unfold joinF at hi ⊢; rw [length_rkL] at hi ⊢; exact rk_bd hi)).mono ?_
    rintro e w5 ⟨t, rfl, ht, hb5⟩
    have hc5 := hc4.trans (hb5.mono hc4.size)
    rw [turn_meet hP.out hP'.out hl.out] at ht
    go_wp2_with fail
    go_ret2
    exact ⟨_, rfl, ht.mono hc4.size, hc5⟩


end Go.Proofs.Ytgibgcjpehcemaa
