/- Contracts: comparison of braids, and the sum of exponents. -/
import Derived.Test.YtkgdbobhppmaiaaDoorBrb
import Derived.Test.YtkgdbobhppmaiaaDoorBrc
namespace Go.Proofs.YtkgdbobhppmaiaaDoor
open Go.RowKit

set_option maxRecDepth 100000 in
set_option maxHeartbeats 1000000 in
theorem l00same_spec (v u : Value) (l m : List Int) (w : World) (h : Reads w v (ints l)) (h' : Reads w u (ints m)) :
    Calls Tryd.prog 81 #[v, u] w fun e w' => e = .returned (.bool (decide (l = m))) ∧ Below w.heap.size w w' := by
  have hs := h.small
  have hs' := h'.small
  simp only [length_ints] at hs hs'
  have hlen := h.len (P := Tryd.prog) 35 3 ⟨_, sliceI⟩
  have hlen' := h'.len (P := Tryd.prog) 35 3 ⟨_, sliceI⟩
  simp only [length_ints] at hlen hlen'
  by_cases hne : l.length = m.length
  · have hb : ((l.length : Int) != (m.length : Int)) = false := by simp [hne]
    go_enter Tryd.func81, Tryd.ntmps81
    go_wp2_with fail
    go_loopw [5] (fun i wr => ∃ k : Nat, k ≤ l.length ∧ i = .int .i64 k ∧ (∀ j, j < k → nth l j = nth m j) ∧ Below w.heap.size w wr) (fun i _ => l.length - (intOf i).toNat)
    case atStart =>
      exact ⟨0, by omega, rfl, by omega, Below.refl _ _⟩
    case round =>
      obtain ⟨k, hk, rfl, heq, hb⟩ := hrel
      by_cases hlt : k < l.length
      · have hltm : k < m.length := by omega
        have hi := h.idx 35 sliceI sizeI .i64 k (by omega) (by simpa using hlt)
        have hi2 := h'.idx 35 sliceI sizeI .i64 k (by omega) (by simpa using hltm)
        simp only [Int.toNat_natCast] at hi hi2
        have hc := (h.below hb).int hlt
        have hc2 := (h'.below hb).int hltm
        clear hne
        go_wp2_with fail
        go_quiet (fail)
        go_wp2_with fail
        · go_ret
          have hx := ne_nth ‹_›
          exact ⟨by simp [hx], below_drewN hb _⟩
        · go_roundw
          case rel => exact ⟨k + 1, by omega, by go_num, forall_snoc heq (eq_nth ‹_›), below_drewN hb _⟩
          case measure => simp [intOf]; omega
      · obtain rfl : k = l.length := by omega
        have hx : l = m := ext_nth hne heq
        clear hne
        go_wp2_with fail
        go_ret
        exact ⟨by simp [hx], hb⟩
  · have hx : l ≠ m := fun e => hne (by rw [e])
    have hb : ((l.length : Int) != (m.length : Int)) = true := by rw [bne_iff_ne]; omega
    clear hne
    go_enter Tryd.func81, Tryd.ntmps81
    go_wp2_with fail
    go_ret
    exact ⟨by simp [hx], Below.refl _ _⟩


set_option maxRecDepth 100000 in
set_option maxHeartbeats 1000000 in
theorem sb_spec (n m : Int) (v u : Value) (l k : List Int) (w : World) (h : Reads w v (ints l)) (h' : Reads w u (ints k)) :
    Calls Tryd.prog 45 #[.agg #[.int .i64 n, v], .agg #[.int .i64 m, u]] w fun e w' => e = .returned (.bool (n == m && decide (l = k))) ∧ Below w.heap.size w w' := by
  have hr0 := reads_alloc (reads_alloc h (.cells #[.int .i64 n, v] 40)) (.cells #[.int .i64 m, u] 40)
  have hr1 := reads_alloc (reads_alloc h' (.cells #[.int .i64 n, v] 40)) (.cells #[.int .i64 m, u] 40)
  have hbox : Below w.heap.size w ((w.alloc (.cells #[.int .i64 n, v] 40)).alloc (.cells #[.int .i64 m, u] 40)) := ((Below.refl _ _).alloc (Nat.le_refl _) _).alloc (by simp) _
  cases e1 : (n == m) with
  | false =>
    go_enter Tryd.func45, Tryd.ntmps45
    go_wp2_with fail
    go_ret
    exact ⟨rfl, hbox⟩
  | true =>
    go_enter Tryd.func45, Tryd.ntmps45
    go_wp2_with fail
    refine (l00same_spec _ _ _ _ _ hr0 hr1).mono ?_
    rintro e w1 ⟨rfl, hs⟩
    cases e2 : decide (l = k) with
    | true =>
      go_wp2_with fail
      go_ret
      exact ⟨by first | rfl | (rw [e2]; rfl), hbox.trans (hs.mono (by simp; omega))⟩
    | false =>
      go_wp2_with fail
      go_ret
      exact ⟨by first | rfl | (rw [e2]; rfl), hbox.trans (hs.mono (by simp; omega))⟩


/-- the sum of the signs of the first k letters -/
def expTo (l : List Int) (k : Nat) : Int := sumTo (fun i => if 0 < nth l i then 1 else -1) k
theorem expTo_pos {l : List Int} {k : Nat} (h : 0 < nth l k) : expTo l (k + 1) = expTo l k + 1 := by rw [expTo, sumTo_succ, if_pos h, expTo]
theorem expTo_neg {l : List Int} {k : Nat} (h : ¬ 0 < nth l k) : expTo l (k + 1) = expTo l k - 1 := by rw [expTo, sumTo_succ, if_neg h, expTo]; rfl
theorem expTo_size (l : List Int) (k : Nat) : -(k : Int) ≤ expTo l k ∧ expTo l k ≤ k := by
  induction k with
  | zero => exact ⟨by simp [expTo, sumTo], by simp [expTo, sumTo]⟩
  | succ k ih =>
    by_cases h : 0 < nth l k
    · rw [expTo_pos h]; omega
    · rw [expTo_neg h]; omega
def expF (n : Int) (l : List Int) : Int := if okB n l then expTo l l.length else 0

/-- a letter without its sign -/
def absI (k : Int) : Int := if k < 0 then -k else k
theorem size_impl (k : Int) (w : World) (h : -1000 ≤ k ∧ k ≤ 1000) :
    Calls Tryd.prog 78 #[.int .i64 k] w fun e w' => e = .returned (.int .i64 (absI k)) ∧ w = w' := by
  go_enter Tryd.func78, Tryd.ntmps78
  go_wp2_with fail
  all_goals
    go_ret
    exact ⟨ret_int (by unfold absI; split <;> omega), rfl⟩

set_option maxRecDepth 100000 in
set_option maxHeartbeats 2000000 in
theorem expo_impl (n : Int) (v : Value) (l : List Int) (w : World) (h : Reads w v (ints l)) :
    Calls Tryd.prog 43 #[.agg #[.int .i64 n, v]] w fun e w' => e = .returned (.int .i64 (expF n l)) ∧ Below w.heap.size w w' := by
  have hs := h.small
  have hlen := h.len (P := Tryd.prog) 35 3 ⟨_, sliceI⟩
  simp only [length_ints] at hs hlen
  have hr0 := reads_alloc h (.cells #[.int .i64 n, v] 40)
  have hbox : Below w.heap.size w (w.alloc (.cells #[.int .i64 n, v] 40)) := (Below.refl _ _).alloc (Nat.le_refl _) _
  have hB := own_arr w 40 #[.int .i64 n, v] 2 rfl (by omega) (Nat.zero_le _)
  go_enter Tryd.func43, Tryd.ntmps43
  go_wp2_with fail
  refine (vb_impl n v l _ hr0).mono ?_
  rintro e w1 ⟨rfl, hs⟩
  have hb1 := hbox.trans (hs.mono (by simp))
  cases e1 : okB n l with
  | false =>
    have hres : expF n l = 0 := by simp [expF, e1]
    go_wp2_with fail
    go_ret
    exact ⟨by first | rfl | (rw [hres]; rfl), hb1⟩
  | true =>
    have hres : expF n l = expTo l l.length := by simp [expF, e1]
    obtain ⟨q0, q1, q2, q3⟩ := okB_of e1
    have c1 := (hB.below hs).reads.cell 1 _ rfl
    rw [adr_arr] at c1
    have hr1 := hr0.below hs
    clear hB hr0
    go_wp2_with fail
    go_loop [3, 5, 11] (fun x _ i => ∃ k : Nat, k ≤ l.length ∧ i = .int .i64 k ∧ x = .int .i64 (expTo l k)) (fun _ _ i => l.length - (intOf i).toNat)
    case atStart => exact ⟨0, by omega, rfl, rfl⟩
    case round =>
      obtain ⟨k, hk, rfl, rfl⟩ := hrel
      have hsz := expTo_size l k
      by_cases hlt : k < l.length
      · have hi := h.idx 35 sliceI sizeI .i64 k (by omega) (by simpa using hlt)
        simp only [Int.toNat_natCast] at hi
        have hc := hr1.int hlt
        obtain ⟨a0, a1, a2⟩ := q3 k hlt
        by_cases hp : 0 < nth l k
        · have hn := hid (expTo_pos hp)
          generalize expTo l k = s at *
          generalize nth l k = a at *
          have hq : a.tdiv a = 1 := Int.tdiv_self a0
          have hab : absI a = a := by unfold absI; split <;> omega
          clear q3
          go_wp2_with (go_at_call 78; refine (size_impl _ _ (by omega)).mono ?_; rintro e w2 ⟨rfl, rfl⟩; rw [hab])
          go_round
          case rel => exact ⟨k + 1, by omega, by go_num, by rw [hn.out]⟩
          case measure => simp [intOf]; omega
        · have hn := hid (expTo_neg hp)
          generalize expTo l k = s at *
          generalize nth l k = a at *
          have hq : a.tdiv (-a) = -1 := by rw [Int.tdiv_neg, Int.tdiv_self a0]
          have hab : absI a = -a := by unfold absI; split <;> omega
          have a0' : -a ≠ 0 := by omega
          clear q3
          go_wp2_with (go_at_call 78; refine (size_impl _ _ (by omega)).mono ?_; rintro e w2 ⟨rfl, rfl⟩; rw [hab])
          go_round
          case rel => exact ⟨k + 1, by omega, by go_num, by rw [hn.out]; go_num⟩
          case measure => simp [intOf]; omega
      · obtain rfl : k = l.length := by omega
        go_wp2_with fail
        go_ret
        exact ⟨by first | rfl | (rw [hres]; rfl), hb1⟩


end Go.Proofs.YtkgdbobhppmaiaaDoor
