/- Contracts: the laws' helpers on slices of slices and on normal forms. -/
import Derived.Test.YtmeccemnmkobbaaRow
import Derived.Test.YtmeccemnmkobbaaBrc
namespace Go.Proofs.Ytmeccemnmkobbaa
open Go.RowKit

theorem sliceII : Try.prog.underlying 22 = some (.slice 32) := by kernel_rfl
theorem sizeSI : (sizeOf 32).run Try.prog = fun w => .ok 1 w := by funext w; kernel_rfl
theorem infoSI : (Try.prog.info? 32).map (fun i => (i.zero, i.size, i.bytes)) = some (some (.slice none 0 0), 1, 24) := by kernel_rfl


set_option maxRecDepth 100000 in
set_option maxHeartbeats 1000000 in
/-- the comparison, quiet -/
theorem eqIq (v u : Value) (l m : List Int) (w : World) (h : Reads w v (ints l)) (h' : Reads w u (ints m)) :
    Calls Try.prog 81 #[v, u] w fun e w' => e = .returned (.bool (decide (l = m))) ∧ ∃ q, w' = w.drewN q := by
  have hs := h.small
  have hs' := h'.small
  simp only [length_ints] at hs hs'
  have hlen := h.len (P := Try.prog) 32 3 ⟨_, sliceI⟩
  have hlen' := h'.len (P := Try.prog) 32 3 ⟨_, sliceI⟩
  simp only [length_ints] at hlen hlen'
  by_cases hne : l.length = m.length
  · have hb : ((l.length : Int) != (m.length : Int)) = false := by simp [hne]
    go_enter Try.func81, Try.ntmps81
    go_wp2_with fail
    go_loopw [5] (fun i wr => ∃ (k q : Nat), k ≤ l.length ∧ i = .int .i64 k ∧ (∀ j, j < k → nth l j = nth m j) ∧ wr = w.drewN q) (fun i _ => l.length - (intOf i).toNat)
    case atStart =>
      exact ⟨0, 0, by omega, rfl, by omega, rfl⟩
    case round =>
      obtain ⟨k, q, hk, rfl, heq, rfl⟩ := hrel
      by_cases hlt : k < l.length
      · have hltm : k < m.length := by omega
        have hi := h.idx 32 sliceI sizeI .i64 k (by omega) (by simpa using hlt)
        have hi2 := h'.idx 32 sliceI sizeI .i64 k (by omega) (by simpa using hltm)
        simp only [Int.toNat_natCast] at hi hi2
        have hc := h.int hlt
        have hc2 := h'.int hltm
        clear hne
        go_wp2_with fail
        go_quiet (fail)
        go_wp2_with fail
        · go_ret
          have hx := ne_nth ‹_›
          exact ⟨by simp [hx], _, World.drewN_drewN ..⟩
        · go_roundw
          case rel => exact ⟨k + 1, _, by omega, by go_num, forall_snoc heq (eq_nth ‹_›), rfl⟩
          case measure => simp [intOf]; omega
      · obtain rfl : k = l.length := by omega
        have hx : l = m := ext_nth hne heq
        clear hne
        go_wp2_with fail
        go_ret
        exact ⟨by simp [hx], _, rfl⟩
  · have hx : l ≠ m := fun e => hne (by rw [e])
    have hb : ((l.length : Int) != (m.length : Int)) = true := by rw [bne_iff_ne]; omega
    clear hne
    go_enter Try.func81, Try.ntmps81
    go_wp2_with fail
    go_ret
    exact ⟨by simp [hx], 0, rfl⟩


theorem ext_rat {a b : List (List Int)} (hl : a.length = b.length) (h : ∀ j, j < a.length → rat a j = rat b j) : a = b := by
  apply List.ext_getElem?
  intro j
  by_cases hj : j < a.length
  · rw [rat_of hj, rat_of (by omega), h j hj]
  · rw [List.getElem?_eq_none (by omega), List.getElem?_eq_none (by omega)]

/-- a callee that only draws, inside a region that draws -/
theorem quietQ {P : Program} {f : FuncId} {args : Array Value} {w : World} {n : Nat} {v : Value}
    (h : Calls P f args (w.drewN n) fun e w' => e = .returned v ∧ ∃ q, w' = (w.drewN n).drewN q) : Calls P f args (w.drewN n) fun e w'' => e = .returned v ∧ ∃ m, w'' = w.drewN m :=
  h.mono fun _ _ ⟨he, q, hq⟩ => ⟨he, n + q, by rw [hq, World.drewN_drewN]⟩

set_option maxRecDepth 100000 in
set_option maxHeartbeats 1000000 in
theorem eqII (v u : Value) (l m : List (List Int)) (w : World) (h : ReadsII w v l) (h' : ReadsII w u m) :
    Calls Try.prog 63 #[v, u] w fun e w' => e = .returned (.bool (decide (l = m))) ∧ Below w.heap.size w w' := by
  obtain ⟨vs, hv, hvr⟩ := h
  obtain ⟨us, hu, hur⟩ := h'
  have hs := hv.small
  have hs' := hu.small
  have hlen := hv.len (P := Try.prog) 22 3 ⟨_, sliceII⟩
  have hlen' := hu.len (P := Try.prog) 22 3 ⟨_, sliceII⟩
  have ev := hvr.len
  have eu := hur.len
  rw [ev] at hs hlen
  rw [eu] at hs' hlen'
  by_cases hne : l.length = m.length
  · have hbn : ((l.length : Int) != (m.length : Int)) = false := by simp [hne]
    go_enter Try.func63, Try.ntmps63
    go_wp2_with fail
    go_loopw [5] (fun i wr => ∃ k : Nat, k ≤ l.length ∧ i = .int .i64 k ∧ (∀ j, j < k → rat l j = rat m j) ∧ Below w.heap.size w wr) (fun i _ => l.length - (intOf i).toNat)
    case atStart => exact ⟨0, by omega, rfl, by omega, Below.refl _ _⟩
    case round =>
      obtain ⟨k, hk, rfl, heq, hb⟩ := hrel
      have heq' := hid heq
      clear heq
      by_cases hlt : k < l.length
      · have hltm : k < m.length := by omega
        have hi := hv.idx 22 sliceII sizeSI .i64 k (by omega) (by omega)
        have hi2 := hu.idx 22 sliceII sizeSI .i64 k (by omega) (by omega)
        simp only [Int.toNat_natCast] at hi hi2
        have hc := (hv.below hb).cell k _ (vat_of (by omega))
        have hc2 := (hu.below hb).cell k _ (vat_of (by omega))
        have hq := hid (fun (n : Nat) => eqIq (vat vs k) (vat us k) (rat l k) (rat m k) (wr.drewN n) (((hvr.below hb).row k hlt).drewN n) (((hur.below hb).row k hltm).drewN n))
        clear hne ev eu hbn
        cases e1 : decide (rat l k = rat m k) with
        | true =>
          have e2 := hid (of_decide_eq_true e1)
          rw [e1] at hq
          clear e1
          go_wp2_with fail
          go_quiet ((go_at_call 81; exact quietQ (hq.out _)))
          go_wp2_with fail
          go_roundw
          case rel => exact ⟨k + 1, by omega, by go_num, forall_snoc (p := fun j => rat l j = rat m j) heq'.out e2.out, below_drewN hb _⟩
          case measure => simp [intOf]; omega
        | false =>
          have e2 := hid (show l ≠ m from fun e => by rw [e] at e1; simp at e1)
          rw [e1] at hq
          clear e1
          go_wp2_with fail
          go_quiet ((go_at_call 81; exact quietQ (hq.out _)))
          go_wp2_with fail
          go_ret
          exact ⟨by simp [e2.out], below_drewN hb _⟩
      · obtain rfl : k = l.length := by omega
        have hx : l = m := ext_rat hne heq'.out
        clear hne
        go_wp2_with fail
        go_ret
        exact ⟨by simp [hx], hb⟩
  · have hx : l ≠ m := fun e => hne (by rw [e])
    have hb : ((l.length : Int) != (m.length : Int)) = true := by rw [bne_iff_ne]; omega
    clear hne
    go_enter Try.func63, Try.ntmps63
    go_wp2_with fail
    go_ret
    exact ⟨by simp [hx], Below.refl _ _⟩


/-- what is left of a size behind rows -/
def szNN (ls : List (List Int)) (left : Int) : Int := if left - (tot ls + ls.length) < 0 then -1 else left - (tot ls + ls.length)
theorem szNN_yes {ls : List (List Int)} {q : Int} (h : ¬ q - (tot ls + ls.length) < 0) : szNN ls q = q - (tot ls + ls.length) := by simp [szNN, h]
theorem szNN_no {ls : List (List Int)} {q : Int} (h : q - (tot ls + ls.length) < 0) : szNN ls q = -1 := by simp [szNN, h]

set_option maxRecDepth 100000 in
set_option maxHeartbeats 1000000 in
theorem szII (v : Value) (l : List (List Int)) (q : Int) (w : World) (h : ReadsII w v l) (q0 : -1 ≤ q) (q1 : q ≤ 1048576) :
    Calls Try.prog 53 #[v, .int .i64 q] w fun e w' => e = .returned (.int .i64 (szNN l q)) ∧ w = w' := by
  obtain ⟨vs, hv, hvr⟩ := h
  have hs := hv.small
  have hlen := hv.len (P := Try.prog) 22 3 ⟨_, sliceII⟩
  have ev := hvr.len
  rw [ev] at hs hlen
  have hT := tot_nonneg l
  by_cases hq : q - (l.length : Int) < 0
  · have hz : szNN l q = -1 := szNN_no (by omega)
    go_enter Try.func53, Try.ntmps53
    go_wp2_with fail
    go_ret
    exact ⟨by first | rfl | (rw [hz]; rfl), rfl⟩
  · go_enter Try.func53, Try.ntmps53
    go_wp2_with fail
    go_loop [1, 5] (fun x i => ∃ k : Nat, k ≤ l.length ∧ i = .int .i64 k ∧ x = .int .i64 (q - l.length - tot (l.take k)) ∧ 0 ≤ q - l.length - tot (l.take k)) (fun _ i => l.length - (intOf i).toNat)
    case atStart => exact ⟨0, by omega, rfl, by simp [tot_nil], by simp [tot_nil]; omega⟩
    case round =>
      obtain ⟨k, hk, rfl, rfl, hge⟩ := hrel
      have hn := tot_nonneg (l.take k)
      by_cases hlt : k < l.length
      · have hi := hv.idx 22 sliceII sizeSI .i64 k (by omega) (by omega)
        simp only [Int.toNat_natCast] at hi
        have hc := hv.cell k _ (vat_of (by omega))
        have hrow := hid (hvr.row k hlt)
        have hTk := hid (tot_take hlt)
        have hle := tot_take_le (ls := l) (k + 1)
        clear ev hvr
        have hxb : q - (l.length : Int) - tot (l.take k) ≤ 1048576 := by omega
        generalize hx : q - (l.length : Int) - tot (l.take k) = x at *
        have hX := hid hx
        clear hx
        by_cases hb : x - ((rat l k).length : Int) < 0
        · have hz : szNN l q = -1 := szNN_no (by have := hTk.out; have := hX.out; omega)
          have hz2 : szN (rat l k).length x = -1 := by simp [szN, hb]
          go_wp2_with fail
          refine (szI (vat vs k) (rat l k) x _ hrow.out (by omega) (by omega)).mono ?_
          rintro e w1 ⟨rfl, rfl⟩
          rw [hz2]
          go_wp2_with fail
          go_ret
          exact ⟨by first | rfl | (rw [hz]; rfl), rfl⟩
        · have hz2 : szN (rat l k).length x = x - (rat l k).length := by simp [szN, hb]
          go_wp2_with fail
          refine (szI (vat vs k) (rat l k) x _ hrow.out (by omega) (by omega)).mono ?_
          rintro e w1 ⟨rfl, rfl⟩
          rw [hz2]
          go_wp2_with fail
          go_round
          case rel => exact ⟨k + 1, by omega, by go_num, by have := hTk.out; have := hX.out; congr 1; omega, by have := hTk.out; have := hX.out; omega⟩
          case measure => simp [intOf]; omega
      · obtain rfl : k = l.length := by omega
        rw [List.take_of_length_le (Nat.le_refl _)] at hge ⊢
        have hz : szNN l q = q - l.length - tot l := by rw [szNN_yes (by omega)]; omega
        go_wp2_with fail
        go_ret
        exact ⟨by first | rfl | (rw [hz]; rfl), rfl⟩

set_option maxRecDepth 100000 in
set_option maxHeartbeats 1000000 in
theorem szN' (n p : Int) (v : Value) (l : List (List Int)) (q : Int) (w : World) (h : ReadsII w v l) (q0 : -1 ≤ q) (q1 : q ≤ 1048576) :
    Calls Try.prog 13 #[.agg #[.int .i64 n, .int .i64 p, v], .int .i64 q] w fun e w' => e = .returned (.int .i64 (szNN l q)) ∧ Below w.heap.size w w' := by
  have hr0 := h.alloc (.cells #[.int .i64 n, .int .i64 p, v] 24)
  have hbox : Below w.heap.size w (w.alloc (.cells #[.int .i64 n, .int .i64 p, v] 24)) := (Below.refl _ _).alloc (Nat.le_refl _) _
  go_enter Try.func13, Try.ntmps13
  go_wp2_with fail
  refine (szII _ _ _ _ hr0 (by omega) (by omega)).mono ?_
  rintro e w1 ⟨rfl, rfl⟩
  by_cases hq : szNN l q < 0
  · have hz : szNN l q = -1 := by unfold szNN at *; split at hq <;> simp_all
    go_wp2_with fail
    go_ret
    exact ⟨by first | rfl | (rw [hz]; rfl), hbox⟩
  · go_wp2_with fail
    go_ret
    exact ⟨rfl, hbox⟩


set_option maxRecDepth 100000 in
set_option maxHeartbeats 1000000 in
theorem eqN (n p m q : Int) (v u : Value) (l k : List (List Int)) (w : World) (h : ReadsII w v l) (h' : ReadsII w u k) :
    Calls Try.prog 17 #[.agg #[.int .i64 n, .int .i64 p, v], .agg #[.int .i64 m, .int .i64 q, u]] w fun e w' => e = .returned (.bool (n == m && (p == q) && decide (l = k))) ∧ Below w.heap.size w w' := by
  have hr0 := (h.alloc (.cells #[.int .i64 n, .int .i64 p, v] 27)).alloc (.cells #[.int .i64 m, .int .i64 q, u] 27)
  have hr1 := (h'.alloc (.cells #[.int .i64 n, .int .i64 p, v] 27)).alloc (.cells #[.int .i64 m, .int .i64 q, u] 27)
  have hbox : Below w.heap.size w ((w.alloc (.cells #[.int .i64 n, .int .i64 p, v] 27)).alloc (.cells #[.int .i64 m, .int .i64 q, u] 27)) := ((Below.refl _ _).alloc (Nat.le_refl _) _).alloc (by simp) _
  cases e1 : (n == m) with
  | false =>
    have e1' : (n != m) = true := by simp [bne, e1]
    go_enter Try.func17, Try.ntmps17
    go_wp2_with fail
    go_ret
    exact ⟨by first | rfl | simp, hbox⟩
  | true =>
  have e1' : (n != m) = false := by simp [bne, e1]
  cases e2 : (p == q) with
  | false =>
    have e2' : (p != q) = true := by simp [bne, e2]
    go_enter Try.func17, Try.ntmps17
    go_wp2_with fail
    go_ret
    exact ⟨by first | rfl | simp, hbox⟩
  | true =>
    have e2' : (p != q) = false := by simp [bne, e2]
    go_enter Try.func17, Try.ntmps17
    go_wp2_with fail
    refine (eqII _ _ _ _ _ hr0 hr1).mono ?_
    rintro e w1 ⟨rfl, hs⟩
    cases e3 : decide (l = k) with
    | true =>
      go_wp2_with fail
      go_ret
      exact ⟨by first | rfl | (rw [e3]; rfl), hbox.trans (hs.mono (by simp; omega))⟩
    | false =>
      go_wp2_with fail
      go_ret
      exact ⟨by first | rfl | (rw [e3]; rfl), hbox.trans (hs.mono (by simp; omega))⟩

set_option maxRecDepth 100000 in
set_option maxHeartbeats 1000000 in
theorem markII (v : Value) (ls : List (List Int)) (q : Int) (w : World) {lo hi : Nat} (h : OwnII w lo hi 32 2 v ls) (hl : tot ls ≤ 500000000000) (q0 : 0 ≤ q) (q1 : q ≤ 500000000000) :
    Calls Try.prog 87 #[v, .int .i64 q] w fun e w' => e = .returned (.int .i64 (q + tot ls)) ∧ OwnII w' lo hi 32 2 v (marksL ls q) ∧ GrI w w' lo hi := by
  obtain ⟨vs, h⟩ := h
  have hs := h.out.reads.small
  have hlen := h.out.reads.len (P := Try.prog) 22 3 ⟨_, sliceII⟩
  have ev := h.len
  rw [ev] at hs hlen
  go_enter Try.func87, Try.ntmps87
  go_wp2_with fail
  go_loopw [1, 5] (fun x i wr => ∃ k : Nat, k ≤ ls.length ∧ i = .int .i64 k ∧ x = .int .i64 (q + tot (ls.take k)) ∧ OwnR wr lo hi 32 2 v vs ((marksL ls q).take k ++ ls.drop k) ∧ GrI w wr lo hi) (fun _ i _ => ls.length - (intOf i).toNat)
  case atStart => exact ⟨0, by omega, rfl, by simp [tot_nil], by simpa using h, GrI.refl _ _ _⟩
  case round =>
    clear h
    obtain ⟨k, hk, rfl, rfl, hown, hg⟩ := hrel
    have hll : ((marksL ls q).take k ++ ls.drop k).length = ls.length := by simp; omega
    by_cases hlt : k < ls.length
    · have hi := hown.out.reads.idx 22 sliceII sizeSI .i64 k (by omega) (by omega)
      simp only [Int.toNat_natCast] at hi
      have hc := hown.out.reads.cell k _ (vat_of (by omega))
      have hrow := hown.row k (by omega)
      rw [rat_mid q hlt] at hrow
      have t1 := tot_take hlt
      have t2 := tot_take_le (ls := ls) (k + 1)
      have t3 := tot_nonneg (ls.take k)
      have hT := hid t1
      have hC := markI (vat vs k) (rat ls k) (q + tot (ls.take k)) wr hrow.own (by omega) (by omega) (by omega)
      have hown' := hid hown
      clear hown hrow hll ev t1 t2
      go_wp2_with fail
      refine hC.mono ?_
      rintro e w1 ⟨rfl, ho, hgr⟩
      obtain ⟨hR, hG⟩ := hown'.out.setRow (i := k) (by simp; omega) ho hgr
      rw [mark_rows q hlt] at hR
      clear hC ho hgr hown'
      go_wp2_with fail
      go_roundw
      case rel => exact ⟨k + 1, by omega, by go_num, by rw [hT.out]; congr 1; omega, hR, hg.trans hG⟩
      case measure => simp [intOf]; omega
    · obtain rfl : k = ls.length := by omega
      rw [List.take_of_length_le (Nat.le_refl _)]
      rw [List.take_of_length_le (by simp), List.drop_of_length_le (Nat.le_refl _), List.append_nil] at hown
      go_wp2_with fail
      go_ret
      exact ⟨rfl, ⟨vs, hown⟩, hg⟩

set_option maxRecDepth 100000 in
set_option maxHeartbeats 1000000 in
theorem markN (n p : Int) (v : Value) (ls : List (List Int)) (q : Int) (w : World) {lo hi : Nat} (h : OwnII w lo hi 32 2 v ls) (hl : tot ls ≤ 500000000000) (q0 : 0 ≤ q) (q1 : q ≤ 500000000000) :
    Calls Try.prog 38 #[.agg #[.int .i64 n, .int .i64 p, v], .int .i64 q] w fun e w' => e = .returned (.int .i64 (q + tot ls)) ∧ OwnII w' lo hi 32 2 v (marksL ls q) ∧ GrI w w' lo hi := by
  have hr0 := h.alloc (.cells #[.int .i64 n, .int .i64 p, v] 27)
  have hbox : Below w.heap.size w (w.alloc (.cells #[.int .i64 n, .int .i64 p, v] 27)) := (Below.refl _ _).alloc (Nat.le_refl _) _
  go_enter Try.func38, Try.ntmps38
  go_wp2_with fail
  refine (markII _ _ _ _ hr0 (by omega) (by omega) (by omega)).mono ?_
  rintro e w1 ⟨rfl, ho, hg⟩
  go_wp2_with fail
  go_ret
  exact ⟨rfl, ho, (GrI.ofBelow hbox _ _).trans hg⟩

set_option maxRecDepth 100000 in
set_option maxHeartbeats 1000000 in
theorem heldII (v : Value) (ls : List (List Int)) (q : Int) (w : World) (h : ReadsII w v (marksL ls q)) (hl : tot ls ≤ 500000000000) (q0 : 0 ≤ q) (q1 : q ≤ 500000000000) :
    Calls Try.prog 103 #[v, .int .i64 q] w fun e w' => e = .returned (.int .i64 (q + tot ls)) ∧ Below w.heap.size w w' := by
  obtain ⟨vs, hv, hvr⟩ := h
  have hs := hv.small
  have hlen := hv.len (P := Try.prog) 22 3 ⟨_, sliceII⟩
  have ev := hvr.len
  rw [length_marksL] at ev
  rw [ev] at hs hlen
  go_enter Try.func103, Try.ntmps103
  go_wp2_with fail
  go_loopw [1, 5] (fun x i wr => ∃ k : Nat, k ≤ ls.length ∧ i = .int .i64 k ∧ x = .int .i64 (q + tot (ls.take k)) ∧ Below w.heap.size w wr) (fun _ i _ => ls.length - (intOf i).toNat)
  case atStart => exact ⟨0, by omega, rfl, by simp [tot_nil], Below.refl _ _⟩
  case round =>
    obtain ⟨k, hk, rfl, rfl, hb⟩ := hrel
    have t3 := tot_nonneg (ls.take k)
    by_cases hlt : k < ls.length
    · have hi := hv.idx 22 sliceII sizeSI .i64 k (by omega) (by omega)
      simp only [Int.toNat_natCast] at hi
      have hc := (hv.below hb).cell k _ (vat_of (by omega))
      have hrow := (hvr.below hb).row k (by simpa using hlt)
      rw [rat_marksL q hlt] at hrow
      have t1 := tot_take hlt
      have t2 := tot_take_le (ls := ls) (k + 1)
      have hC := heldI (vat vs k) (rat ls k).length (q + tot (ls.take k)) wr hrow (by omega) (by omega) (by omega)
      have hT := hid t1
      have hge : ¬ (q + tot (ls.take k) + ((rat ls k).length : Int) < 0) := by omega
      clear hrow ev t1 t2
      go_wp2_with fail
      refine hC.mono ?_
      rintro e w1 ⟨rfl, hs1⟩
      have hb1 := hb.trans (hs1.mono hb.size)
      clear hC
      go_wp2_with fail
      go_roundw
      case rel => exact ⟨k + 1, by omega, by go_num, by rw [hT.out]; congr 1; omega, hb1⟩
      case measure => simp [intOf]; omega
    · obtain rfl : k = ls.length := by omega
      rw [List.take_of_length_le (Nat.le_refl _)]
      go_wp2_with fail
      go_ret
      exact ⟨rfl, hb⟩

set_option maxRecDepth 100000 in
set_option maxHeartbeats 1000000 in
theorem heldN (n p : Int) (v : Value) (ls : List (List Int)) (q : Int) (w : World) (h : ReadsII w v (marksL ls q)) (hl : tot ls ≤ 500000000000) (q0 : 0 ≤ q) (q1 : q ≤ 500000000000) :
    Calls Try.prog 48 #[.agg #[.int .i64 n, .int .i64 p, v], .int .i64 q] w fun e w' => e = .returned (.int .i64 (q + tot ls)) ∧ Below w.heap.size w w' := by
  have hr0 := h.alloc (.cells #[.int .i64 n, .int .i64 p, v] 27)
  have hbox : Below w.heap.size w (w.alloc (.cells #[.int .i64 n, .int .i64 p, v] 27)) := (Below.refl _ _).alloc (Nat.le_refl _) _
  have ht := tot_nonneg ls
  have hge : ¬ (q + tot ls < 0) := by omega
  go_enter Try.func48, Try.ntmps48
  go_wp2_with fail
  refine (heldII _ _ _ _ hr0 (by omega) (by omega) (by omega)).mono ?_
  rintro e w1 ⟨rfl, hs⟩
  go_wp2_with fail
  go_ret
  exact ⟨rfl, hbox.trans (hs.mono (by simp))⟩


/-- rows that the call has made so far, the outer slice among them filled up with nils -/
structure MadeR (w : World) (g : Nat) (v : Value) (vs : List Value) (ls : List (List Int)) (n : Nat) : Prop where
  out : Own w g 32 v (vs ++ List.replicate (n - vs.length) (.slice none 0 0))
  blk : blk v = some g
  len : vs.length = ls.length
  row : ∀ i, i < ls.length → Own w (g + 1) 2 (vat vs i) (ints (rat ls i))
  apart : ∀ i j, i < j → j < ls.length → Apart (vat vs i) (vat vs j)
theorem vat_snoc {vs : List Value} {v : Value} {i : Nat} (h : i < vs.length) : vat (vs ++ [v]) i = vat vs i := by unfold vat; rw [List.getElem?_append_left h]
theorem vat_last (vs : List Value) (v : Value) : vat (vs ++ [v]) vs.length = v := by simp [vat]
theorem rat_snoc {ls : List (List Int)} {l : List Int} {i : Nat} (h : i < ls.length) : rat (ls ++ [l]) i = rat ls i := by unfold rat; rw [List.getElem?_append_left h]
theorem rat_last (ls : List (List Int)) (l : List Int) : rat (ls ++ [l]) ls.length = l := by simp [rat]
theorem MadeR.step {w w' : World} {g : Nat} {v : Value} {vs : List Value} {ls : List (List Int)} {n : Nat} (h : MadeR w g v vs ls n) (hk : vs.length < n) (hb : Below w.heap.size w w') {u : Value} {l : List Int} (hu : Own w' w.heap.size 2 u (ints l)) :
    MadeR (w'.setCell (adr v vs.length) u) g v (vs ++ [u]) (ls ++ [l]) n := by
  have hg : g < w.heap.size := (h.out.blk_lt h.blk).2
  have hlen : (vs ++ List.replicate (n - vs.length) (.slice none 0 0 : Value)).length = n := by simp; omega
  have hab := (h.out.below hb).adr_blk (i := vs.length) (by rw [hlen]; exact hk)
  have hblk : (adr v vs.length).block = g := by have := hab.1; rw [h.blk] at this; injection this with e; exact e.symm
  have ho := (h.out.below hb).set (i := vs.length) (by rw [hlen]; exact hk) u
  have hset : ∀ {x : Value} {xs : List Value}, Own w' (g + 1) 2 x xs → Own (w'.setCell (adr v vs.length) u) (g + 1) 2 x xs := fun hx =>
    hx.keep fun k hk2 _ => Below.heap_setCell _ _ _ _ (fun e => by have := (hx.blk_lt hk2).1; omega)
  refine ⟨?_, h.blk, by simp [h.len], ?_, ?_⟩
  · rw [List.set_append_right _ _ (Nat.le_refl _), Nat.sub_self, show n - vs.length = (n - (vs ++ [u]).length) + 1 by simp; omega, List.replicate_succ, List.set_cons_zero] at ho
    simpa using ho
  · intro i hi
    by_cases e : i < ls.length
    · rw [vat_snoc (by rw [h.len]; exact e), rat_snoc e]
      exact hset ((h.row i e).below hb)
    · have : i = ls.length := by simp at hi; omega
      subst this
      rw [rat_last, show ls.length = vs.length from h.len.symm, vat_last]
      exact hset (hu.mono (by omega))
  · intro i j hij hj
    by_cases e : j < ls.length
    · rw [vat_snoc (by rw [h.len]; omega), vat_snoc (by rw [h.len]; exact e)]
      exact h.apart i j hij e
    · have : j = ls.length := by simp at hj; omega
      subst this
      rw [vat_snoc (by rw [h.len]; exact hij), show ls.length = vs.length from h.len.symm, vat_last]
      exact apart_new (h.row i (by omega)) hu

set_option maxRecDepth 100000 in
set_option maxHeartbeats 1000000 in
theorem toII (v : Value) (ls : List (List Int)) (w : World) (h : ReadsII w v ls) (hl : ls.length ≤ 1048576) (hr : ∀ i, i < ls.length → (rat ls i).length ≤ 1048576) :
    Calls Try.prog 55 #[v] w fun e w' => ∃ u, e = .returned u ∧ OwnII w' w.heap.size w'.heap.size 32 2 u ls ∧ Below w.heap.size w w' := by
  obtain ⟨vs, hv, hvr⟩ := h
  have hs := hv.small
  have hlen := hv.len (P := Try.prog) 22 3 ⟨_, sliceII⟩
  have ev := hvr.len
  rw [ev] at hs hlen
  have hmk := make_run sliceII infoSI rfl ls.length (by omega) (by omega) (by omega)
  simp only [Int.toNat_natCast] at hmk
  go_enter Try.func55, Try.ntmps55
  go_wp2_with fail
  go_loopw [4] (fun i wr => ∃ (k : Nat) (us : List Value), k ≤ ls.length ∧ us.length = k ∧ i = .int .i64 k ∧ MadeR wr w.heap.size (madeV w ls.length) us (ls.take k) ls.length ∧ Below w.heap.size w wr) (fun i _ => ls.length - (intOf i).toNat)
  case atStart =>
    refine ⟨0, [], by omega, rfl, rfl, ⟨?_, rfl, by simp, by simp, by simp⟩, below_made _ _ _ _⟩
    simpa using own_made w 32 ls.length (.slice none 0 0) (by omega) (Nat.le_refl _)
  case round =>
    obtain ⟨k, us, hk, hus, rfl, hm, hb⟩ := hrel
    by_cases hlt : k < ls.length
    · have hi := hv.idx 22 sliceII sizeSI .i64 k (by omega) (by omega)
      simp only [Int.toNat_natCast] at hi
      have hc := (hv.below hb).cell k _ (vat_of (by omega))
      have hrow := (hvr.below hb).row k hlt
      have hC := toI (vat vs k) (rat ls k) wr hrow (hr k hlt)
      have hT := hid (take_rat hlt)
      have hmm := hid hm
      clear hm ev hrow
      go_wp2_with fail
      refine hC.mono ?_
      rintro e w1 ⟨u, rfl, ho, hs1⟩
      obtain ⟨ua, um, uc, rfl⟩ : ∃ a n c, u = .slice a n c := by obtain ⟨a, c, rfl, -⟩ := ho.reads.form; exact ⟨a, _, c, rfl⟩
      have hb1 := hb.trans (hs1.mono hb.size)
      have hll : (us ++ List.replicate (ls.length - us.length) (.slice none 0 0 : Value)).length = ls.length := by simp; omega
      have hm1 := hmm.out.out.below hs1
      have hi2 := hm1.reads.idx 22 sliceII sizeSI .i64 k (by omega) (by rw [hll]; omega)
      simp only [Int.toNat_natCast] at hi2
      obtain ⟨dz, hd⟩ : ∃ x, w1.cell? (adr (madeV w ls.length) k) = some x := ⟨_, hm1.reads.cell k _ (List.getElem?_eq_getElem (by rw [hll]; omega))⟩
      have hf := hm1.frozen (i := k) (by rw [hll]; omega)
      have hab := (hm1.adr_blk (i := k) (by rw [hll]; omega)).2.1
      have hst := hmm.out.step (by omega) hs1 ho
      rw [hus, ← hT.out] at hst
      have hb2 := hb1.setCell hab (.slice ua um uc)
      have hus2 : (us ++ [Value.slice ua um uc]).length = k + 1 := by simp [hus]
      have hST := hid hst
      have hU := hid hus2
      clear hC ho hs1 hm1 hst hab hus2 hll hus
      go_wp2_with fail
      go_roundw
      case rel => exact ⟨k + 1, us ++ [.slice ua um uc], by omega, hU.out, by go_num, hST.out, hb2⟩
      case measure => simp [intOf]; omega
    · obtain rfl : k = ls.length := by omega
      rw [List.take_of_length_le (Nat.le_refl _)] at hm
      go_wp2_with fail
      go_ret
      refine ⟨_, rfl, ⟨us, ⟨?_, fun k hk => (hm.out.blk_lt hk).2⟩, hm.len, fun i hi => ⟨(hm.row i hi).mono (by omega), fun k hk => ((hm.row i hi).blk_lt hk).2⟩, hm.apart, ?_⟩, hb⟩
      · have := hm.out
        rw [hus, Nat.sub_self] at this
        simpa using this
      · intro i hi k hk e
        have := ((hm.row i hi).blk_lt hk).1
        have e2 : some k = some w.heap.size := e.trans hm.blk
        injection e2 with e2
        omega


set_option maxRecDepth 100000 in
set_option maxHeartbeats 2000000 in
theorem toN (n p : Int) (v : Value) (ls : List (List Int)) (w : World) (h : ReadsII w v ls) (hl : tot ls + ls.length ≤ 1048576) :
    Calls Try.prog 15 #[.agg #[.int .i64 n, .int .i64 p, v]] w fun e w' => ∃ u, e = .returned (.agg #[.int .i64 n, .int .i64 p, u]) ∧ OwnII w' w.heap.size w'.heap.size 32 2 u ls ∧ Below w.heap.size w w' := by
  have ht := tot_nonneg ls
  go_enter Try.func15, Try.ntmps15
  go_wp2_with fail
  have hr3 := ((h.alloc (.cells #[.int .i64 n, .int .i64 p, v] 24)).alloc (.cells #[.int .i64 0, .int .i64 0, .slice none 0 0] 27)).alloc (.cells #[.int .i64 n, .int .i64 p, .slice none 0 0] 27)
  have hR := Bx.alloc (Bx.new (w.alloc (.cells #[.int .i64 n, .int .i64 p, v] 24)) #[.int .i64 0, .int .i64 0, .slice none 0 0] 27) (.cells #[.int .i64 n, .int .i64 p, .slice none 0 0] 27)
  have hO := Bx.new ((w.alloc (.cells #[.int .i64 n, .int .i64 p, v] 24)).alloc (.cells #[.int .i64 0, .int .i64 0, .slice none 0 0] 27)) #[.int .i64 n, .int .i64 p, .slice none 0 0] 27
  have hbox : Below w.heap.size w (((w.alloc (.cells #[.int .i64 n, .int .i64 p, v] 24)).alloc (.cells #[.int .i64 0, .int .i64 0, .slice none 0 0] 27)).alloc (.cells #[.int .i64 n, .int .i64 p, .slice none 0 0] 27)) := (((Below.refl _ _).alloc (Nat.le_refl _) _).alloc (by simp) _).alloc (by simp; omega) _
  generalize hW : (((w.alloc (.cells #[.int .i64 n, .int .i64 p, v] 24)).alloc (.cells #[.int .i64 0, .int .i64 0, .slice none 0 0] 27)).alloc (.cells #[.int .i64 n, .int .i64 p, .slice none 0 0] 27)) = w3 at *
  have hsz : w3.heap.size = w.heap.size + 1 + 1 + 1 := by rw [← hW]; simp
  clear hW
  simp only [World.size_alloc] at hR hO
  refine (toII _ _ _ hr3 (by omega) (fun i hi => by have := row_le_tot hi; omega)).mono ?_
  rintro e w4 ⟨u, rfl, ho, hs⟩
  obtain ⟨ua, um, uc, rfl⟩ := ho.form
  have hb4 := hbox.trans (hs.mono (by omega))
  have hR4 := hR.below hs
  have hO4 := hO.below hs
  have hg1 : GrI w4 (w4.setCell ⟨w.heap.size + 1 + 1, 2, none⟩ (.slice ua um uc)) 0 w3.heap.size := (GrI.refl _ _ _).set (by simp) (by simp; omega) _
  have hO5 := hO4.set 2 (.slice ua um uc)
  have hR5 := hR4.other (a := ⟨w.heap.size + 1 + 1, 2, none⟩) (by simp) (.slice ua um uc)
  have hR6 := hR5.set 0 (.int .i64 n)
  have hR7 := hR6.set 1 (.int .i64 p)
  have c40 := hO4.cell 0 rfl
  have c41 := hO4.cell 1 rfl
  have c42 := hO4.cell 2 rfl
  have f42 := hO4.frozen 2
  have c50 := hO5.cell 0 rfl
  have c51 := hO5.cell 1 rfl
  have c52 := hO5.cell 2 rfl
  have r40 := hR4.cell 0 rfl
  have r41 := hR4.cell 1 rfl
  have r42 := hR4.cell 2 rfl
  have f40 := hR4.frozen 0
  have f41 := hR4.frozen 1
  have f42' := hR4.frozen 2
  have r51 := hR5.cell 1 rfl
  have r52 := hR5.cell 2 rfl
  have r70 := hR7.cell 0 rfl
  have r71 := hR7.cell 1 rfl
  have r72 := hR7.cell 2 rfl
  have ho7 := ((ho.gri hg1 (by right; omega)).gri ((GrI.refl _ 0 w3.heap.size).set (a := ⟨w.heap.size + 1, 0, none⟩) (by simp) (by simp; omega) (.int .i64 n)) (by right; omega)).gri ((GrI.refl _ 0 w3.heap.size).set (a := ⟨w.heap.size + 1, 1, none⟩) (by simp) (by simp; omega) (.int .i64 p)) (by right; omega)
  have ho8 := ho7.gri ((GrI.refl _ 0 w3.heap.size).set (a := ⟨w.heap.size + 1, 2, none⟩) (by simp) (by simp; omega) (.slice ua um uc)) (by right; omega)
  clear hR4 hO4 hR hO hg1 hO5 hR5 hR6 hR7 ho ho7
  go_wp2_with fail
  refine bodyPost_ret (v := .agg #[.int .i64 n, .int .i64 p, .slice ua um uc]) (by simp [r70, r71, r72, results, Try.results15, go_sem]) rfl ⟨_, rfl, ?_, ?_⟩
  · exact ho8.widen (by omega) (by simp [World.setCell])
  · exact (((hb4.setCell (by simp; omega) _).setCell (by simp) _).setCell (by simp) _).setCell (by simp) _


end Go.Proofs.Ytmeccemnmkobbaa
