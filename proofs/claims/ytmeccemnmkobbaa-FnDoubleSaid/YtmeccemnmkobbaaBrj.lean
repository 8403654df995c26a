/- Contracts: the permutation of a braid. -/
import Derived.Test.YtmeccemnmkobbaaBrk
namespace Go.Proofs.Ytmeccemnmkobbaa
open Go.RowKit

/-- the exchanges of the letters of a word -/
def exchL (l : List Int) : List Int := l.map fun k => absI k - 1
@[simp] theorem length_exchL (l : List Int) : (exchL l).length = l.length := by simp [exchL]
theorem nth_exchL {l : List Int} {i : Nat} (h : i < l.length) : nth (exchL l) i = absI (nth l i) - 1 := nth_map _ h
theorem absI_bd {n k : Int} (h0 : k ≠ 0) (h1 : 1 - n ≤ k) (h2 : k ≤ n - 1) : 1 ≤ absI k ∧ absI k ≤ n - 1 := by unfold absI; split <;> omega
/-- the permutation of a braid; none if it is not valid -/
def permB (n : Int) (l : List Int) : List Int := if okB n l then wordF n.toNat (exchL l) else []
theorem adr_ne' {w : World} {B : Nat} {e : TypeId} {v : Value} {xs : List Value} (h : Own w B e v xs) {i j : Nat} (hi : i < xs.length) (hne : i ≠ j) : adr v i ≠ adr v j := h.adr_ne hi hne


set_option maxRecDepth 100000 in
set_option maxHeartbeats 2000000 in
theorem places_spec (n : Int) (v : Value) (l : List Int) (w : World) (h : Reads w v (ints l)) (h0 : 0 ≤ n) (h1 : n ≤ 12) (hl : l.length ≤ 1048576) (hr : ∀ i, i < l.length → nth l i ≠ 0 ∧ 1 - n ≤ nth l i ∧ nth l i ≤ n - 1) :
    Calls Try.prog 71 #[.int .i64 n, v] w fun e w' => ∃ u, e = .returned u ∧ Own w' w.heap.size 2 u (ints (exch (idn n.toNat) (exchL l))) ∧ Below w.heap.size w w' := by
  obtain ⟨m, rfl⟩ := Int.eq_ofNat_of_zero_le h0
  rw [Int.toNat_natCast]
  have hs := h.small
  have hlen := h.len (P := Try.prog) 32 3 ⟨_, sliceI⟩
  simp only [length_ints] at hs hlen
  have hR := hid hr
  clear hr
  go_enter Try.func71, Try.ntmps71
  go_wp2_with fail
  go_loopw [5, 6] (fun u i wr => ∃ k : Nat, k ≤ m ∧ i = .int .i64 k ∧ Own wr w.heap.size 2 u (ints (idn k)) ∧ Below w.heap.size w wr) (fun _ i _ => m - (intOf i).toNat)
  case atStart => exact ⟨0, by omega, rfl, own_empty w _ (Nat.le_refl _), (Below.refl _ _).alloc (Nat.le_refl _) _⟩
  case round =>
    obtain ⟨k, hk, rfl, hown, hb⟩ := hrel
    by_cases hlt : k < m
    · obtain ⟨v', w', hrun, hown', hb'⟩ := app_one (ty := 32) (x := .int .i64 (k : Int)) sliceI infoI rfl hown rfl hb.size (by simp; omega) (by decide) hb (Nat.le_refl _)
      have hst : Own w' w.heap.size 2 v' (ints (idn (k + 1))) := by rw [idn_succ]; simpa [ints] using hown'
      clear hown'
      go_wp2_with (at_builtin; refine wpList_app hrun rfl _ _ rfl rfl rfl ?_)
      go_roundw
      case rel => exact ⟨k + 1, by omega, by go_num, hst, hb'⟩
      case measure => simp [intOf]; omega
    · obtain rfl : k = m := by omega
      go_wp2_with fail
      go_loopw [7, 8, 9] (fun i _ _ wq => ∃ j : Nat, j ≤ l.length ∧ i = .int .i64 j ∧ Own wq w.heap.size 2 u5 (ints (exch (idn k) ((exchL l).take j))) ∧ Below w.heap.size w wq) (fun i _ _ _ => l.length - (intOf i).toNat)
      case atStart => exact ⟨0, by omega, rfl, by simpa [exch] using hown, hb⟩
      case round =>
        clear hown hb
        obtain ⟨j, hj, rfl, hown, hb⟩ := hrel
        by_cases hlt : j < l.length
        · obtain ⟨q0, q1, q2⟩ := hR.out j hlt
          obtain ⟨r0, r1⟩ := absI_bd q0 q1 q2
          have hi := h.idx 32 sliceI sizeI .i64 j (by omega) (by simpa using hlt)
          simp only [Int.toNat_natCast] at hi
          have hc := (h.below hb).int hlt
          have hX := hid (nth_exchL hlt)
          have hA := hid (fun w => abs_spec (nth l j) w (by omega))
          have hTk := hid (exch_take (l := idn k) (word := exchL l) (k := j) (by simpa using hlt))
          generalize nth l j = z at *
          generalize absI z = a at *
          have hi2 := hown.reads.idx 32 sliceI sizeI .i64 (a - 1) (by omega) (by simp; omega)
          have hi3 := hown.reads.idx 32 sliceI sizeI .i64 a (by omega) (by simp; omega)
          have ea : a.toNat = (a - 1).toNat + 1 := by omega
          rw [ea] at hi3
          have eT : swapAt (exch (idn k) ((exchL l).take j)) (a - 1).toNat = exch (idn k) ((exchL l).take (j + 1)) := by rw [hTk.out, hX.out]
          have hlE : (exch (idn k) ((exchL l).take j)).length = k := by simp
          have eT' := hid eT
          clear eT ea
          generalize exch (idn k) ((exchL l).take j) = E at *
          generalize ht : (a - 1).toNat = t at *
          have htk : t + 1 < E.length := by omega
          have hd := hown.reads.cell t _ (ints_at (by omega))
          have hd2 := hown.reads.cell (t + 1) _ (ints_at htk)
          have hf := hown.frozen (i := t) (by simp; omega)
          have hf2 := hown.frozen (i := t + 1) (by simp; omega)
          have hab := (hown.adr_blk (i := t) (by simp; omega)).2.1
          have hab2 := (hown.adr_blk (i := t + 1) (by simp; omega)).2.1
          have hne := hown.adr_ne (i := t) (j := t + 1) (by simp; omega) (by omega)
          have hne2 := hown.adr_ne (i := t + 1) (j := t) (by simp; omega) (by omega)
          have hst := (hown.set (i := t) (by simp; omega) (.int .i64 (nth E (t + 1)))).set (i := t + 1) (by simp; omega) (.int .i64 (nth E t))
          rw [ints_set, ints_set] at hst
          change Own _ _ _ _ (ints (swapAt E t)) at hst
          have hst2 := hst
          rw [eT'.out] at hst2
          clear hst hlE
          go_wp2_with (go_at_call 117; refine (hA.out _).mono ?_; rintro e w1 ⟨rfl, rfl⟩)
          go_roundw
          case rel => exact ⟨j + 1, by omega, by go_num, hst2, (hb.setCell hab _).setCell hab2 _⟩
          case measure => simp [intOf]; omega
        · obtain rfl : j = l.length := by omega
          rw [List.take_of_length_le (by simp)] at hown
          go_wp2_with fail
          go_ret
          exact ⟨_, rfl, hown, hb⟩


theorem range_E {n : Int} {l : List Int} (h : okB n l = true) : ∀ i, i < (exch (idn n.toNat) (exchL l)).length → 0 ≤ nth (exch (idn n.toNat) (exchL l)) i ∧ nth (exch (idn n.toNat) (exchL l)) i < (exch (idn n.toNat) (exchL l)).length := by
  obtain ⟨q0, q1, q2, q3⟩ := okB_of h
  have := range_exch (l := idn n.toNat) (word := exchL l) (P := fun x => 0 ≤ x ∧ x < n.toNat) (fun i hi => by
    rw [length_exchL] at hi
    obtain ⟨a, b, c⟩ := q3 i hi
    have := absI_bd a b c
    rw [nth_exchL hi]; simp; omega) (fun i hi => by simp at hi; rw [nth_idn (by omega)]; omega) l.length (by simp)
  rw [List.take_of_length_le (by simp)] at this
  intro i hi
  simp only [length_exch, length_idn] at hi ⊢
  exact this i (by simpa using hi)

set_option maxRecDepth 100000 in
set_option maxHeartbeats 2000000 in
theorem bp_spec (n : Int) (v : Value) (l : List Int) (w : World) (h : Reads w v (ints l)) :
    Calls Try.prog 23 #[.agg #[.int .i64 n, v]] w fun e w' => ∃ u, e = .returned u ∧ Own w' w.heap.size 2 u (ints (permB n l)) ∧ Below w.heap.size w w' := by
  have hA0 := Bx.new w #[.int .i64 n, v] 35
  have hr0 := reads_alloc h (.cells #[.int .i64 n, v] 35)
  have hb0 : Below w.heap.size w (w.alloc (.cells #[.int .i64 n, v] 35)) := (Below.refl _ _).alloc (Nat.le_refl _) _
  have A00 := hA0.cell 0 rfl
  have A01 := hA0.cell 1 rfl
  go_enter Try.func23, Try.ntmps23
  go_wp2_with fail
  refine (bok_spec w.heap.size 0 n v l _ A00 A01 hr0).mono ?_
  rintro e w1 ⟨rfl, hs1⟩
  have hb1 := hb0.trans (hs1.mono hb0.size)
  have hA1 := hA0.below hs1
  have hr1 := hr0.below hs1
  clear hs1 hb0 hA0 hr0 A00 A01
  have A10 := hA1.cell 0 rfl
  have A11 := hA1.cell 1 rfl
  cases e1 : okB n l with
  | false =>
    have hres : permB n l = [] := by simp [permB, e1]
    go_wp2_with fail
    go_ret
    exact ⟨_, rfl, by rw [hres]; exact own_nilB _ _ _, hb1⟩
  | true =>
    obtain ⟨q0, q1, q2, q3⟩ := okB_of e1
    have hres : permB n l = invF (exch (idn n.toNat) (exchL l)) := by simp [permB, e1, wordF]
    have hRE := hid (range_E e1)
    have hE12 : (exch (idn n.toNat) (exchL l)).length ≤ 12 := by simp; omega
    have hC := places_spec n v l w1 hr1 q0 q1 (by omega) q3
    clear q3 hr1
    generalize exch (idn n.toNat) (exchL l) = E at *
    go_wp2_with fail
    refine hC.mono ?_
    rintro e w2 ⟨p, rfl, hp, hs2⟩
    have hb2 := hb1.trans (hs2.mono hb1.size)
    have hlen := hp.reads.len (P := Try.prog) 32 3 ⟨_, sliceI⟩
    simp only [length_ints] at hlen
    have hmk := make_run sliceI infoI rfl E.length (by omega) (by omega) (by omega)
    simp only [Int.toNat_natCast] at hmk
    clear hC hs2 hA1 A10 A11
    go_wp2_with fail
    go_loopw [5] (fun i wr => ∃ k : Nat, k ≤ E.length ∧ i = .int .i64 k ∧ Own wr w2.heap.size 2 (madeV w2 E.length) (ints (invTo E k)) ∧ Below w2.heap.size w2 wr) (fun i _ => E.length - (intOf i).toNat)
    case atStart =>
      refine ⟨0, by omega, rfl, ?_, below_made _ _ _ _⟩
      have := own_made w2 2 E.length (.int .i64 0) (by omega) (Nat.le_refl _)
      simpa [ints, invTo] using this
    case round =>
      obtain ⟨k, hk, rfl, hown, hb⟩ := hrel
      by_cases hlt : k < E.length
      · obtain ⟨r0, r1⟩ := hRE.out k hlt
        have hi := hp.reads.idx 32 sliceI sizeI .i64 k (by omega) (by simpa using hlt)
        simp only [Int.toNat_natCast] at hi
        have hi3 := hown.reads.idx 32 sliceI sizeI .i64 (nth E k) r0 (by simp; omega)
        have hc := (hp.reads.below hb).int hlt
        have hd := hown.reads.cell (nth E k).toNat _ (ints_at (by simp; omega))
        have hf := hown.frozen (i := (nth E k).toNat) (by simp; omega)
        have hab := (hown.adr_blk (i := (nth E k).toNat) (by simp; omega)).2.1
        have hst := hown.set (i := (nth E k).toNat) (by simp; omega) (.int .i64 k)
        rw [ints_set] at hst
        go_wp2_with fail
        go_roundw
        case rel => exact ⟨k + 1, by omega, by go_num, hst, hb.setCell hab _⟩
        case measure => simp [intOf]; omega
      · obtain rfl : k = E.length := by omega
        go_wp2_with fail
        go_ret
        exact ⟨_, rfl, by rw [hres]; exact hown.mono hb2.size, hb2.trans (hb.mono hb2.size)⟩

end Go.Proofs.Ytmeccemnmkobbaa
