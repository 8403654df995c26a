/- Contracts: the comparison of normal forms. -/
import Derived.Test.YtmeccemnmkobbaaNob
import Derived.Test.YtmeccemnmkobbaaBrd
namespace Go.Proofs.Ytmeccemnmkobbaa
open Go.RowKit

set_option maxRecDepth 100000 in
set_option maxHeartbeats 1000000 in
/-- the comparison, quiet -/
theorem l00same_q (v u : Value) (l m : List Int) (w : World) (h : Reads w v (ints l)) (h' : Reads w u (ints m)) :
    Calls Try.prog 101 #[v, u] w fun e w' => e = .returned (.bool (decide (l = m))) ∧ ∃ q, w' = w.drewN q := by
  have hs := h.small
  have hs' := h'.small
  simp only [length_ints] at hs hs'
  have hlen := h.len (P := Try.prog) 32 3 ⟨_, sliceI⟩
  have hlen' := h'.len (P := Try.prog) 32 3 ⟨_, sliceI⟩
  simp only [length_ints] at hlen hlen'
  by_cases hne : l.length = m.length
  · have hb : ((l.length : Int) != (m.length : Int)) = false := by simp [hne]
    go_enter Try.func101, Try.ntmps101
    go_wp2_with fail
    go_loopw [5] (fun i wr => ∃ (k q : Nat), k ≤ l.length ∧ i = .int .i64 k ∧ (∀ j, j < k → nth l j = nth m j) ∧ wr = w.drewN q) (fun i _ => l.length - (intOf i).toNat)
    case atStart =>
      exact ⟨0, 0, by omega, rfl, by omega, rfl⟩
    case round =>
      obtain ⟨k, q, hk, rfl, heq, rfl⟩ := hrel
      by_cases hlt : k < l.length
      · have hltm : k < m.length := by omega
        have hi := h.idx 32 sliceI sizeI .i64 k (by omega) (by simpa using hlt)
        have hi2 := h'.idx 32 sliceI sizeI .i64 k (by omega) (by simpa using hltm)
        simp only [Int.toNat_natCast] at hi hi2
        have hc := h.int hlt
        have hc2 := h'.int hltm
        clear hne
        go_wp2_with fail
        go_quiet (fail)
        go_wp2_with fail
        · go_ret
          have hx := ne_nth ‹_›
          exact ⟨by simp [hx], _, World.drewN_drewN ..⟩
        · go_roundw
          case rel => exact ⟨k + 1, _, by omega, by go_num, forall_snoc heq (eq_nth ‹_›), rfl⟩
          case measure => simp [intOf]; omega
      · obtain rfl : k = l.length := by omega
        have hx : l = m := ext_nth hne heq
        clear hne
        go_wp2_with fail
        go_ret
        exact ⟨by simp [hx], _, rfl⟩
  · have hx : l ≠ m := fun e => hne (by rw [e])
    have hb : ((l.length : Int) != (m.length : Int)) = true := by rw [bne_iff_ne]; omega
    clear hne
    go_enter Try.func101, Try.ntmps101
    go_wp2_with fail
    go_ret
    exact ⟨by simp [hx], 0, rfl⟩




def sameN (n p : Int) (l : List (List Int)) (m q : Int) (k : List (List Int)) : Bool := n == m && (p == q) && decide (l = k)

theorem bne_of {a b : Int} {x : Bool} (h : (a == b) = x) : (a != b) = !x := by rw [bne, h]

set_option maxRecDepth 100000 in
set_option maxHeartbeats 4000000 in
theorem sn_spec (n p m q : Int) (v u : Value) (l k : List (List Int)) (w : World) (h : ReadsII w v l) (h' : ReadsII w u k) :
    Calls Try.prog 51 #[.agg #[.int .i64 n, .int .i64 p, v], .agg #[.int .i64 m, .int .i64 q, u]] w fun e w' => e = .returned (.bool (sameN n p l m q k)) ∧ Below w.heap.size w w' := by
  obtain ⟨vs, hv0, hvr0⟩ := (h.alloc (.cells #[.int .i64 n, .int .i64 p, v] 27)).alloc (.cells #[.int .i64 m, .int .i64 q, u] 27)
  obtain ⟨us, hu0, hur0⟩ := (h'.alloc (.cells #[.int .i64 n, .int .i64 p, v] 27)).alloc (.cells #[.int .i64 m, .int .i64 q, u] 27)
  have hA := Bx.alloc (Bx.new w #[.int .i64 n, .int .i64 p, v] 27) (.cells #[.int .i64 m, .int .i64 q, u] 27)
  have hB := Bx.new (w.alloc (.cells #[.int .i64 n, .int .i64 p, v] 27)) #[.int .i64 m, .int .i64 q, u] 27
  have hbox : Below w.heap.size w ((w.alloc (.cells #[.int .i64 n, .int .i64 p, v] 27)).alloc (.cells #[.int .i64 m, .int .i64 q, u] 27)) := ((Below.refl _ _).alloc (Nat.le_refl _) _).alloc (by simp) _
  have hs := hv0.small
  have hs' := hu0.small
  have hlen := hv0.len (P := Try.prog) 22 3 ⟨_, sliceII⟩
  have hlen' := hu0.len (P := Try.prog) 22 3 ⟨_, sliceII⟩
  have ev := hvr0.len
  have eu := hur0.len
  rw [ev] at hs hlen
  rw [eu] at hs' hlen'
  have A0 := hA.cell 0 rfl
  have A1 := hA.cell 1 rfl
  have A2 := hA.cell 2 rfl
  have B0 := hB.cell 0 rfl
  have B1 := hB.cell 1 rfl
  have B2 := hB.cell 2 rfl
  simp only [World.size_alloc] at B0 B1 B2 hB
  cases e1 : (n == m) with
  | false =>
    have e1' := bne_of e1
    simp only [Bool.not_false] at e1'
    go_enter Try.func51, Try.ntmps51
    go_wp2_with fail
    go_ret
    exact ⟨by first | rfl | simp [sameN, e1], hbox⟩
  | true =>
  have e1' := bne_of e1
  simp only [Bool.not_true] at e1'
  cases e2 : (p == q) with
  | false =>
    have e2' := bne_of e2
    simp only [Bool.not_false] at e2'
    go_enter Try.func51, Try.ntmps51
    go_wp2_with fail
    go_ret
    exact ⟨by first | rfl | simp [sameN, e1, e2], hbox⟩
  | true =>
  have e2' := bne_of e2
  simp only [Bool.not_true] at e2'
  by_cases hne : l.length = k.length
  case neg =>
    have hx : decide (l = k) = false := decide_eq_false (fun e => hne (by rw [e]))
    have e3 : ((l.length : Int) != (k.length : Int)) = true := by rw [bne_iff_ne]; omega
    clear hne
    go_enter Try.func51, Try.ntmps51
    go_wp2_with fail
    go_ret
    exact ⟨by first | rfl | simp [sameN, hx], hbox⟩
  case pos =>
    have e3 : ((l.length : Int) != (k.length : Int)) = false := by simp [hne]
    have hres : sameN n p l m q k = decide (l = k) := by simp [sameN, e1, e2]
    have hN := hid hne
    clear hne
    go_enter Try.func51, Try.ntmps51
    go_wp2_with fail
    generalize hW : ((w.alloc (.cells #[.int .i64 n, .int .i64 p, v] 27)).alloc (.cells #[.int .i64 m, .int .i64 q, u] 27)) = w2 at *
    clear hW
    go_loopw [5] (fun i wr => ∃ j : Nat, j ≤ l.length ∧ i = .int .i64 j ∧ (∀ t, t < j → rat l t = rat k t) ∧ Below w2.heap.size w2 wr) (fun i _ => l.length - (intOf i).toNat)
    case atStart => exact ⟨0, by omega, rfl, by omega, Below.refl _ _⟩
    case round =>
      obtain ⟨j, hj, rfl, heq, hb⟩ := hrel
      have heq' := hid heq
      clear heq A0 A1 A2 B0 B1 B2
      have A2 := (hA.below hb).cell 2 rfl
      have B2 := (hB.below hb).cell 2 rfl
      by_cases hlt : j < l.length
      · have hltm : j < k.length := by have := hN.out; omega
        have hi := hv0.idx 22 sliceII sizeSI .i64 j (by omega) (by omega)
        have hi2 := hu0.idx 22 sliceII sizeSI .i64 j (by omega) (by omega)
        simp only [Int.toNat_natCast] at hi hi2
        have hc := (hv0.below hb).cell j _ (vat_of (by omega))
        have hc2 := (hu0.below hb).cell j _ (vat_of (by omega))
        have hq := hid (fun (t : Nat) => l00same_q (vat vs j) (vat us j) (rat l j) (rat k j) (wr.drewN t) (((hvr0.below hb).row j hlt).drewN t) (((hur0.below hb).row j hltm).drewN t))
        clear ev eu e3
        cases e4 : decide (rat l j = rat k j) with
        | true =>
          have e5 := hid (of_decide_eq_true e4)
          rw [e4] at hq
          clear e4
          go_wp2_with fail
          go_quiet ((go_at_call 101; exact quietQ (hq.out _)))
          go_wp2_with fail
          go_roundw
          case rel => exact ⟨j + 1, by omega, by go_num, forall_snoc (p := fun j => rat l j = rat k j) heq'.out e5.out, below_drewN hb _⟩
          case measure => simp [intOf]; omega
        | false =>
          have e5 := hid (show decide (l = k) = false from decide_eq_false (fun e => by rw [e] at e4; simp at e4))
          rw [e4] at hq
          clear e4
          go_wp2_with fail
          go_quiet ((go_at_call 101; exact quietQ (hq.out _)))
          go_wp2_with fail
          go_ret
          exact ⟨by first | rfl | (rw [hres, e5.out]; rfl), hbox.trans (below_drewN (hb.mono hbox.size) _)⟩
      · obtain rfl : j = l.length := by omega
        have hx : l = k := ext_rat hN.out heq'.out
        have hx2 : sameN n p l m q k = true := by rw [hres, hx]; simp
        go_wp2_with fail
        go_ret
        exact ⟨by first | rfl | (rw [hx2]; rfl), hbox.trans (hb.mono hbox.size)⟩

set_option maxRecDepth 100000 in
set_option maxHeartbeats 1000000 in
theorem snclo (v u : Value) (l m : List Int) (w : World) (h : Reads w v (ints l)) (h' : Reads w u (ints m)) :
    ∀ c, c = #[] → Calls Try.prog 139 (#[v, u] ++ c) w fun e w' => e = .returned (.bool (decide (l = m))) ∧ Below w.heap.size w w' := by
  rintro c rfl
  go_enter Try.func139, Try.ntmps139
  go_wp2_with fail
  refine (equal_impl _ _ _ _ _ h h').mono ?_
  rintro e w1 ⟨rfl, hs⟩
  go_wp2_with fail
  go_ret
  exact ⟨rfl, hs⟩

set_option maxRecDepth 100000 in
set_option maxHeartbeats 1000000 in
theorem eqf (v u : Value) (l m : List (List Int)) (w : World) (h : ReadsII w v l) (h' : ReadsII w u m) :
    Calls Try.prog 138 #[v, u, .func (.func 139) #[] #[]] w fun e w' => e = .returned (.bool (decide (l = m))) ∧ Below w.heap.size w w' := by
  obtain ⟨vs, hv, hvr⟩ := h
  obtain ⟨us, hu, hur⟩ := h'
  have hs := hv.small
  have hs' := hu.small
  have hlen := hv.len (P := Try.prog) 22 3 ⟨_, sliceII⟩
  have hlen' := hu.len (P := Try.prog) 22 3 ⟨_, sliceII⟩
  have ev := hvr.len
  have eu := hur.len
  rw [ev] at hs hlen
  rw [eu] at hs' hlen'
  by_cases hne : l.length = m.length
  · have hbn : ((l.length : Int) != (m.length : Int)) = false := by simp [hne]
    go_enter Try.func138, Try.ntmps138
    go_wp2_with fail
    go_loopw [7, 8, 9, 17] (fun _ _ _ i wr => ∃ k : Nat, k ≤ l.length ∧ i = .int .i64 k ∧ (∀ j, j < k → rat l j = rat m j) ∧ Below w.heap.size w wr) (fun _ _ _ i _ => l.length - (intOf i).toNat)
    case atStart => exact ⟨0, by omega, rfl, by omega, Below.refl _ _⟩
    case round =>
      obtain ⟨k, hk, rfl, heq, hb⟩ := hrel
      have heq' := hid heq
      clear heq
      by_cases hlt : k < l.length
      · have hltm : k < m.length := by omega
        have hi := hv.idx 22 sliceII sizeSI .i64 k (by omega) (by omega)
        have hi2 := hu.idx 22 sliceII sizeSI .i64 k (by omega) (by omega)
        simp only [Int.toNat_natCast] at hi hi2
        have hc := (hv.below hb).cell k _ (vat_of (by omega))
        have hc2 := (hu.below hb).cell k _ (vat_of (by omega))
        have hq := hid (snclo (vat vs k) (vat us k) (rat l k) (rat m k) wr ((hvr.below hb).row k hlt) ((hur.below hb).row k hltm))
        clear hne ev eu hbn
        cases e1 : decide (rat l k = rat m k) with
        | true =>
          have e2 := hid (of_decide_eq_true e1)
          rw [e1] at hq
          clear e1
          go_wp2_with (go_at_call 139; refine (hq.out _ rfl).mono ?_; rintro e w1 ⟨rfl, hs1⟩)
          go_roundw
          case rel => exact ⟨k + 1, by omega, by go_num, forall_snoc (p := fun j => rat l j = rat m j) heq'.out e2.out, hb.trans (hs1.mono hb.size)⟩
          case measure => simp [intOf]; omega
        | false =>
          have e2 := hid (show decide (l = m) = false from decide_eq_false (fun e => by rw [e] at e1; simp at e1))
          rw [e1] at hq
          clear e1
          go_wp2_with (go_at_call 139; refine (hq.out _ rfl).mono ?_; rintro e w1 ⟨rfl, hs1⟩)
          go_ret
          exact ⟨by first | rfl | (rw [e2.out]; rfl), hb.trans (hs1.mono hb.size)⟩
      · obtain rfl : k = l.length := by omega
        have hx : l = m := ext_rat hne heq'.out
        have hx2 : decide (l = m) = true := by simp [hx]
        clear hne
        go_wp2_with fail
        go_ret
        exact ⟨by first | rfl | (rw [hx2]; rfl), hb⟩
  · have hx : decide (l = m) = false := decide_eq_false (fun e => hne (by rw [e]))
    have hb : ((l.length : Int) != (m.length : Int)) = true := by rw [bne_iff_ne]; omega
    clear hne
    go_enter Try.func138, Try.ntmps138
    go_wp2_with fail
    go_ret
    exact ⟨by first | rfl | (rw [hx]; rfl), Below.refl _ _⟩

set_option maxRecDepth 100000 in
set_option maxHeartbeats 1000000 in
theorem sn_impl (n p m q : Int) (v u : Value) (l k : List (List Int)) (w : World) (h : ReadsII w v l) (h' : ReadsII w u k) :
    Calls Try.prog 124 #[.agg #[.int .i64 n, .int .i64 p, v], .agg #[.int .i64 m, .int .i64 q, u]] w fun e w' => e = .returned (.bool (sameN n p l m q k)) ∧ Below w.heap.size w w' := by
  have hr0 := (h.alloc (.cells #[.int .i64 n, .int .i64 p, v] 27)).alloc (.cells #[.int .i64 m, .int .i64 q, u] 27)
  have hr1 := (h'.alloc (.cells #[.int .i64 n, .int .i64 p, v] 27)).alloc (.cells #[.int .i64 m, .int .i64 q, u] 27)
  have hbox : Below w.heap.size w ((w.alloc (.cells #[.int .i64 n, .int .i64 p, v] 27)).alloc (.cells #[.int .i64 m, .int .i64 q, u] 27)) := ((Below.refl _ _).alloc (Nat.le_refl _) _).alloc (by simp) _
  cases e1 : (n == m) with
  | false =>
    go_enter Try.func124, Try.ntmps124
    go_wp2_with fail
    go_ret
    exact ⟨by first | rfl | simp [sameN, e1], hbox⟩
  | true =>
  cases e2 : (p == q) with
  | false =>
    go_enter Try.func124, Try.ntmps124
    go_wp2_with fail
    go_ret
    exact ⟨by first | rfl | simp [sameN, e1, e2], hbox⟩
  | true =>
    have hres : sameN n p l m q k = decide (l = k) := by simp [sameN, e1, e2]
    go_enter Try.func124, Try.ntmps124
    go_wp2_with fail
    refine (eqf _ _ _ _ _ hr0 hr1).mono ?_
    rintro e w1 ⟨rfl, hs⟩
    cases e3 : decide (l = k) with
    | true =>
      go_wp2_with fail
      go_ret
      exact ⟨by first | rfl | (rw [hres, e3]; rfl), hbox.trans (hs.mono (by simp; omega))⟩
    | false =>
      go_wp2_with fail
      go_ret
      exact ⟨by first | rfl | (rw [hres, e3]; rfl), hbox.trans (hs.mono (by simp; omega))⟩


end Go.Proofs.Ytmeccemnmkobbaa
