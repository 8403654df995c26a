/- Walk of the law on permutation braids. -/
import Derived.Test.YtmeccemnmkobbaaBrk
import Derived.Test.YtmeccemnmkobbaaSre
import Derived.Test.YtmeccemnmkobbaaLnf
import Derived.Test.YtmeccemnmkobbaaPrk
import Derived.Test.YtmeccemnmkobbaaRwc
import Derived.Test.YtmeccemnmkobbaaDel
import Derived.Test.YtmeccemnmkobbaaStx
namespace Go.Proofs.Ytmeccemnmkobbaa
open Go.RowKit

/-- the exchanges of the letters of a word -/
def exchL (l : List Int) : List Int := l.map fun k => absI k - 1
@[simp] theorem length_exchL (l : List Int) : (exchL l).length = l.length := by simp [exchL]
theorem nth_exchL {l : List Int} {i : Nat} (h : i < l.length) : nth (exchL l) i = absI (nth l i) - 1 := nth_map _ h
theorem absI_bd {n k : Int} (h0 : k ≠ 0) (h1 : 1 - n ≤ k) (h2 : k ≤ n - 1) : 1 ≤ absI k ∧ absI k ≤ n - 1 := by unfold absI; split <;> omega
/-- the permutation of a braid; none if it is not valid -/
def permB (n : Int) (l : List Int) : List Int := if okB n l then wordF n.toNat (exchL l) else []
theorem adr_ne' {w : World} {B : Nat} {e : TypeId} {v : Value} {xs : List Value} (h : Own w B e v xs) {i j : Nat} (hi : i < xs.length) (hne : i ≠ j) : adr v i ≠ adr v j := h.adr_ne hi hne


set_option maxRecDepth 100000 in
set_option maxHeartbeats 2000000 in
theorem places_spec (n : Int) (v : Value) (l : List Int) (w : World) (h : Reads w v (ints l)) (h0 : 0 ≤ n) (h1 : n ≤ 12) (hl : l.length ≤ 1048576) (hr : ∀ i, i < l.length → nth l i ≠ 0 ∧ 1 - n ≤ nth l i ∧ nth l i ≤ n - 1) :
    Calls Try.prog 71 #[.int .i64 n, v] w fun e w' => ∃ u, e = .returned u ∧ Own w' w.heap.size 2 u (ints (exch (idn n.toNat) (exchL l))) ∧ Below w.heap.size w w' := by
  obtain ⟨m, rfl⟩ := Int.eq_ofNat_of_zero_le h0
  rw [Int.toNat_natCast]
  have hs := h.small
  have hlen := h.len (P := Try.prog) 32 3 ⟨_, sliceI⟩
  simp only [length_ints] at hs hlen
  have hR := hid hr
  clear hr
  go_enter Try.func71, Try.ntmps71
  go_wp2_with fail
  go_loopw [5, 6] (fun u i wr => ∃ k : Nat, k ≤ m ∧ i = .int .i64 k ∧ Own wr w.heap.size 2 u (ints (idn k)) ∧ Below w.heap.size w wr) (fun _ i _ => m - (intOf i).toNat)
  case atStart => exact ⟨0, by omega, rfl, own_empty w _ (Nat.le_refl _), (Below.refl _ _).alloc (Nat.le_refl _) _⟩
  case round =>
    obtain ⟨k, hk, rfl, hown, hb⟩ := hrel
    by_cases hlt : k < m
    · obtain ⟨v', w', hrun, hown', hb'⟩ := app_one (ty := 32) (x := .int .i64 (k : Int)) sliceI infoI rfl hown rfl hb.size (by simp; omega) (by decide) hb (Nat.le_refl _)
      have hst : Own w' w.heap.size 2 v' (ints (idn (k + 1))) := by rw [idn_succ]; simpa [ints] using hown'
      clear hown'
      go_wp2_with (at_builtin; refine wpList_app hrun rfl _ _ rfl rfl rfl ?_)
      go_roundw
      case rel => exact ⟨k + 1, by omega, by go_num, hst, hb'⟩
      case measure => simp [intOf]; omega
    · obtain rfl : k = m := by omega
      go_wp2_with fail
      go_loopw [7, 8, 9] (fun i _ _ wq => ∃ j : Nat, j ≤ l.length ∧ i = .int .i64 j ∧ Own wq w.heap.size 2 u5 (ints (exch (idn k) ((exchL l).take j))) ∧ Below w.heap.size w wq) (fun i _ _ _ => l.length - (intOf i).toNat)
      case atStart => exact ⟨0, by omega, rfl, by simpa [exch] using hown, hb⟩
      case round =>
        clear hown hb
        obtain ⟨j, hj, rfl, hown, hb⟩ := hrel
        by_cases hlt : j < l.length
        · obtain ⟨q0, q1, q2⟩ := hR.out j hlt
          obtain ⟨r0, r1⟩ := absI_bd q0 q1 q2
          have hi := h.idx 32 sliceI sizeI .i64 j (by omega) (by simpa using hlt)
          simp only [Int.toNat_natCast] at hi
          have hc := (h.below hb).int hlt
          have hX := hid (nth_exchL hlt)
          have hA := hid (fun w => abs_spec (nth l j) w (by omega))
          have hTk := hid (exch_take (l := idn k) (word := exchL l) (k := j) (by simpa using hlt))
          generalize nth l j = z at *
          generalize absI z = a at *
          have hi2 := hown.reads.idx 32 sliceI sizeI .i64 (a - 1) (by omega) (by simp; omega)
          have hi3 := hown.reads.idx 32 sliceI sizeI .i64 a (by omega) (by simp; omega)
          have ea : a.toNat = (a - 1).toNat + 1 := by omega
          rw [ea] at hi3
          have eT : swapAt (exch (idn k) ((exchL l).take j)) (a - 1).toNat = exch (idn k) ((exchL l).take (j + 1)) := by rw [hTk.out, hX.out]
          have hlE : (exch (idn k) ((exchL l).take j)).length = k := by simp
          have eT' := hid eT
          clear eT ea
          generalize exch (idn k) ((exchL l).take j) = E at *
          generalize ht : (a - 1).toNat = t at *
          have htk : t + 1 < E.length := by omega
          have hd := hown.reads.cell t _ (ints_at (by omega))
          have hd2 := hown.reads.cell (t + 1) _ (ints_at htk)
          have hf := hown.frozen (i := t) (by simp; omega)
          have hf2 := hown.frozen (i := t + 1) (by simp; omega)
          have hab := (hown.adr_blk (i := t) (by simp; omega)).2.1
          have hab2 := (hown.adr_blk (i := t + 1) (by simp; omega)).2.1
          have hne := hown.adr_ne (i := t) (j := t + 1) (by simp; omega) (by omega)
          have hne2 := hown.adr_ne (i := t + 1) (j := t) (by simp; omega) (by omega)
          have hst := (hown.set (i := t) (by simp; omega) (.int .i64 (nth E (t + 1)))).set (i := t + 1) (by simp; omega) (.int .i64 (nth E t))
          rw [ints_set, ints_set] at hst
          change Own _ _ _ _ (ints (swapAt E t)) at hst
          have hst2 := hst
          rw [eT'.out] at hst2
          clear hst hlE
          go_wp2_with (go_at_call 117; refine (hA.out _).mono ?_; rintro e w1 ⟨rfl, rfl⟩)
          go_roundw
          case rel => exact ⟨j + 1, by omega, by go_num, hst2, (hb.setCell hab _).setCell hab2 _⟩
          case measure => simp [intOf]; omega
        · obtain rfl : j = l.length := by omega
          rw [List.take_of_length_le (by simp)] at hown
          go_wp2_with fail
          go_ret
          exact ⟨_, rfl, hown, hb⟩


theorem range_E {n : Int} {l : List Int} (h : okB n l = true) : ∀ i, i < (exch (idn n.toNat) (exchL l)).length → 0 ≤ nth (exch (idn n.toNat) (exchL l)) i ∧ nth (exch (idn n.toNat) (exchL l)) i < (exch (idn n.toNat) (exchL l)).length := by
  obtain ⟨q0, q1, q2, q3⟩ := okB_of h
  have := range_exch (l := idn n.toNat) (word := exchL l) (P := fun x => 0 ≤ x ∧ x < n.toNat) (fun i hi => by
    rw [length_exchL] at hi
    obtain ⟨a, b, c⟩ := q3 i hi
    have := absI_bd a b c
    rw [nth_exchL hi]; simp; omega) (fun i hi => by simp at hi; rw [nth_idn (by omega)]; omega) l.length (by simp)
  rw [List.take_of_length_le (by simp)] at this
  intro i hi
  simp only [length_exch, length_idn] at hi ⊢
  exact this i (by simpa using hi)

set_option maxRecDepth 100000 in
set_option maxHeartbeats 2000000 in
theorem bp_spec (n : Int) (v : Value) (l : List Int) (w : World) (h : Reads w v (ints l)) :
    Calls Try.prog 23 #[.agg #[.int .i64 n, v]] w fun e w' => ∃ u, e = .returned u ∧ Own w' w.heap.size 2 u (ints (permB n l)) ∧ Below w.heap.size w w' := by
  have hA0 := Bx.new w #[.int .i64 n, v] 35
  have hr0 := reads_alloc h (.cells #[.int .i64 n, v] 35)
  have hb0 : Below w.heap.size w (w.alloc (.cells #[.int .i64 n, v] 35)) := (Below.refl _ _).alloc (Nat.le_refl _) _
  have A00 := hA0.cell 0 rfl
  have A01 := hA0.cell 1 rfl
  go_enter Try.func23, Try.ntmps23
  go_wp2_with fail
  refine (bok_spec w.heap.size 0 n v l _ A00 A01 hr0).mono ?_
  rintro e w1 ⟨rfl, hs1⟩
  have hb1 := hb0.trans (hs1.mono hb0.size)
  have hA1 := hA0.below hs1
  have hr1 := hr0.below hs1
  clear hs1 hb0 hA0 hr0 A00 A01
  have A10 := hA1.cell 0 rfl
  have A11 := hA1.cell 1 rfl
  cases e1 : okB n l with
  | false =>
    have hres : permB n l = [] := by simp [permB, e1]
    go_wp2_with fail
    go_ret
    exact ⟨_, rfl, by rw [hres]; exact own_nilB _ _ _, hb1⟩
  | true =>
    obtain ⟨q0, q1, q2, q3⟩ := okB_of e1
    have hres : permB n l = invF (exch (idn n.toNat) (exchL l)) := by simp [permB, e1, wordF]
    have hRE := hid (range_E e1)
    have hE12 : (exch (idn n.toNat) (exchL l)).length ≤ 12 := by simp; omega
    have hC := places_spec n v l w1 hr1 q0 q1 (by omega) q3
    clear q3 hr1
    generalize exch (idn n.toNat) (exchL l) = E at *
    go_wp2_with fail
    refine hC.mono ?_
    rintro e w2 ⟨p, rfl, hp, hs2⟩
    have hb2 := hb1.trans (hs2.mono hb1.size)
    have hlen := hp.reads.len (P := Try.prog) 32 3 ⟨_, sliceI⟩
    simp only [length_ints] at hlen
    have hmk := make_run sliceI infoI rfl E.length (by omega) (by omega) (by omega)
    simp only [Int.toNat_natCast] at hmk
    clear hC hs2 hA1 A10 A11
    go_wp2_with fail
    go_loopw [5] (fun i wr => ∃ k : Nat, k ≤ E.length ∧ i = .int .i64 k ∧ Own wr w2.heap.size 2 (madeV w2 E.length) (ints (invTo E k)) ∧ Below w2.heap.size w2 wr) (fun i _ => E.length - (intOf i).toNat)
    case atStart =>
      refine ⟨0, by omega, rfl, ?_, below_made _ _ _ _⟩
      have := own_made w2 2 E.length (.int .i64 0) (by omega) (Nat.le_refl _)
      simpa [ints, invTo] using this
    case round =>
      obtain ⟨k, hk, rfl, hown, hb⟩ := hrel
      by_cases hlt : k < E.length
      · obtain ⟨r0, r1⟩ := hRE.out k hlt
        have hi := hp.reads.idx 32 sliceI sizeI .i64 k (by omega) (by simpa using hlt)
        simp only [Int.toNat_natCast] at hi
        have hi3 := hown.reads.idx 32 sliceI sizeI .i64 (nth E k) r0 (by simp; omega)
        have hc := (hp.reads.below hb).int hlt
        have hd := hown.reads.cell (nth E k).toNat _ (ints_at (by simp; omega))
        have hf := hown.frozen (i := (nth E k).toNat) (by simp; omega)
        have hab := (hown.adr_blk (i := (nth E k).toNat) (by simp; omega)).2.1
        have hst := hown.set (i := (nth E k).toNat) (by simp; omega) (.int .i64 k)
        rw [ints_set] at hst
        go_wp2_with fail
        go_roundw
        case rel => exact ⟨k + 1, by omega, by go_num, hst, hb.setCell hab _⟩
        case measure => simp [intOf]; omega
      · obtain rfl : k = E.length := by omega
        go_wp2_with fail
        go_ret
        exact ⟨_, rfl, by rw [hres]; exact hown.mono hb2.size, hb2.trans (hb.mono hb2.size)⟩

end Go.Proofs.Ytmeccemnmkobbaa

namespace Go.Proofs.Ytmeccemnmkobbaa
open Go.RowKit
open Pm

/-- two places are exchanged -/
def exAt (l : List Int) (i k : Nat) : List Int := (l.set i (nth l k)).set k (nth l i)
@[simp] theorem length_exAt (l : List Int) (i k : Nat) : (exAt l i k).length = l.length := by simp [exAt]
theorem nth_exAt {l : List Int} {i k : Nat} (hi : i < l.length) (hk : k < l.length) (j : Nat) : nth (exAt l i k) j = nth l (if j = k then i else if j = i then k else j) := by
  unfold exAt
  rw [nth_set' (by simpa using hk), nth_set' hi]
  by_cases e : k = j
  · rw [if_pos e, if_pos e.symm]
  · rw [if_neg e, if_neg (fun x : j = k => e x.symm)]
    by_cases e2 : i = j
    · rw [if_pos e2, if_pos e2.symm]
    · rw [if_neg e2, if_neg (fun x : j = i => e2 x.symm)]
theorem exch_perm {l : List Int} (h : IsPerm l) {i k : Nat} (hi : i < l.length) (hk : k < l.length) : IsPerm (exAt l i k) := by
  intro a ha
  rw [length_exAt] at ha ⊢
  have hb : ∀ b, b < l.length → (if b = k then i else if b = i then k else b) < l.length := fun b hb => by split <;> (try split) <;> omega
  rw [nth_exAt hi hk]
  refine ⟨h.lo (hb a ha), h.hi (hb a ha), fun b hba => ?_⟩
  rw [nth_exAt hi hk]
  refine h.ne (hb b (by omega)) (hb a ha) ?_
  split <;> split <;> (try split) <;> (try split) <;> omega

set_option maxRecDepth 100000 in
set_option maxHeartbeats 8000000 in
theorem perm_src (g : Nat) (cv : Value) (cs : List Int) (k n : Nat) (w : World) (h : Src w g cv cs k) (hk : k ≤ 90000) (hn : n ≤ 12) (hg : g < w.heap.size) :
    Calls Try.prog 65 #[.pointer (some ⟨g, 0, none⟩), .int .i64 (n : Int)] w fun e w' => ∃ u l, e = .returned u ∧ Own w' w.heap.size 2 u (ints l) ∧ l.length = n ∧ IsPerm l ∧ Src w' g cv cs (k + 30) ∧ GrG w w' g := by
  go_enter Try.func65, Try.ntmps65
  go_wp2_with fail
  refine (id4_spec (n : Int) w (by omega) (by omega)).mono ?_
  rintro e w1 ⟨u, rfl, hu, hs1⟩
  rw [Int.toNat_natCast] at hu
  have hS1 := h.next hs1
  have hG1 := GrG.ofBelow g hs1
  have hp1 : IsPerm (idn n) := by rw [idn_val]; exact (one n).2.2
  have hl1 : (idn n).length = n := by simp
  generalize idn n = l0 at *
  have hu' := hid hu
  have hS' := hid hS1
  have hG' := hid hG1
  have hp' := hid hp1
  clear h hu hs1 hS1 hG1 hp1
  go_wp2_with fail
  go_loopw [6, 7, 8] (fun i _ _ wr => ∃ (x : Int) (l : List Int), -1 ≤ x ∧ x ≤ n - 1 ∧ i = .int .i64 x ∧ l.length = n ∧ IsPerm l ∧ Own wr w.heap.size 2 u (ints l) ∧ Src wr g cv cs (k + 2 * (n - 1 - x).toNat) ∧ GrG w wr g) (fun i _ _ _ => (intOf i + 1).toNat)
  case atStart => exact ⟨n - 1, l0, by omega, by omega, by go_num, hl1, hp'.out, hu'.out, hS'.out.more (by omega), hG'.out⟩
  case round =>
    clear hu' hS' hG' hp' hl1
    obtain ⟨x, l, hx0, hx1, rfl, hll, hp, hu, hS, hG⟩ := hrel
    by_cases hlt : 0 < x
    · obtain ⟨i, rfl⟩ := Int.eq_ofNat_of_zero_le (show 0 ≤ x by omega)
      replace hu := hid hu
      replace hG := hid hG
      replace hp := hid hp
      go_wp2_with fail
      refine (pick_src g cv cs _ ((i : Int) + 1) wr hS (by omega) (by omega) (by omega)).mono ?_
      rintro e w2 ⟨y, rfl, hy0, hy1, hS2, hG2⟩
      obtain ⟨c, rfl⟩ := Int.eq_ofNat_of_zero_le hy0
      have hci : c ≤ i := by omega
      have hin : i < n := by omega
      have hb := hG2.own hu.out hg
      have hG3 := hG.out.trans hG2
      clear hS hG2 hu hG
      have hia := hb.reads.idx 32 sliceI sizeI .i64 (i : Int) (by omega) (by simp; omega)
      have hib := hb.reads.idx 32 sliceI sizeI .i64 (c : Int) (by omega) (by simp; omega)
      simp only [Int.toNat_natCast] at hia hib
      have ca := hb.reads.cell i _ (ints_at (by omega))
      have cb := hb.reads.cell c _ (ints_at (by omega))
      have fa := hb.frozen (i := i) (by simp; omega)
      have aa := (hb.adr_blk (i := i) (by simp; omega))
      have ab := (hb.adr_blk (i := c) (by simp; omega))
      have hb1 := hb.set (i := i) (by simp; omega) (.int .i64 (nth l c))
      have fb := hb1.frozen (i := c) (by simp; omega)
      have hst := hb1.set (i := c) (by simp; omega) (.int .i64 (nth l i))
      rw [ints_set] at hb1
      have cc := hb1.reads.cell c _ (ints_at (by simp; omega))
      rw [ints_set, ints_set] at hst
      have hgr : w2.grownBy ((w2.setCell (adr u i) (.int .i64 (nth l c))).setCell (adr u c) (.int .i64 (nth l i))) (blk u) := grown_set (grown_set (grown_of_below (Below.refl _ _) _) aa.1 _) ab.1 _
      have hSF := hid (hS2.grown hgr fun q hq => by have := (hb.blk_lt hq).1; omega)
      have hGF := hid (hG3.grown hgr fun q hq => (hb.blk_lt hq).1)
      have hOF := hid hst
      have hPF := hid (exch_perm hp.out (i := i) (k := c) (by omega) (by omega))
      clear hS2 hG3 hst hb1 hgr hb
      go_wp2_with fail
      go_roundw
      case rel => exact ⟨(i : Int) - 1, exAt l i c, by omega, by omega, by go_num, by simpa using hll, hPF.out, hOF.out, hSF.out.more (by omega), hGF.out⟩
      case measure => simp [intOf] <;> omega
    · go_wp2_with fail
      go_ret
      exact ⟨_, rfl, l, hu, hll, hp, hS.more (by omega), hG⟩

set_option maxRecDepth 100000 in
set_option maxHeartbeats 4000000 in
theorem e8perm (cv : Value) (cs : List Int) (w : World) (h : Reads w cv (bytes cs)) (hr : ∀ i, i < cs.length → 0 ≤ nth cs i ∧ nth cs i ≤ 255) (hs : cs.length ≤ 1048576) :
    Calls Try.prog 18 #[cv] w fun e w' => ∃ u l, e = .returned u ∧ Own w' w.heap.size 2 u (ints l) ∧ l.length ≤ 8 ∧ IsPerm l ∧ Below w.heap.size w w' := by
  go_enter Try.func18, Try.ntmps18
  go_wp2_with fail
  refine (from_src cv cs w h hr hs).mono ?_
  rintro e w1 ⟨rfl, hS1, hb1⟩
  have hgl : w.heap.size < w1.heap.size := by obtain ⟨⟨a, s, h1, h2, h3, hX⟩, -⟩ := hS1; exact hX.lt
  go_wp2_with fail
  refine (pick_src w.heap.size cv cs 0 9 w1 hS1 (by omega) (by omega) (by omega)).mono ?_
  rintro e w2 ⟨x, rfl, hx0, hx1, hS2, hG2⟩
  obtain ⟨n, rfl⟩ := Int.eq_ofNat_of_zero_le hx0
  have hz2 := hG2.size
  go_wp2_with fail
  refine (perm_src w.heap.size cv cs 2 n w2 hS2 (by omega) (by omega) (by omega)).mono ?_
  rintro e w3 ⟨u, l, rfl, hu, hl, hp, hS3, hG3⟩
  have hb3 := (hb1.trans (hG2.below (by omega))).trans (hG3.below (by omega))
  replace hu := hid hu
  replace hb3 := hid hb3
  replace hp := hid hp
  clear hS1 hS2 hS3 hG2 hG3 hb1
  go_wp2_with fail
  go_ret
  exact ⟨_, l, rfl, hu.out.mono (by omega), by omega, hp.out, hb3.out⟩


end Go.Proofs.Ytmeccemnmkobbaa

namespace Go.Proofs.Ytmeccemnmkobbaa
open Pm

theorem nf_p_one (n : Nat) : (gar n).NF (0, [one n]) = (0, []) := by
  have := (gar n).NF_end_one 0 []
  exact this.trans (gar n).NF_trivial
theorem nf_p_top {n : Nat} (h : 2 ≤ n) : (gar n).NF (0, [top n]) = (1, []) := by
  have := (gar n).NF_cons_top (top_ne_one h) 0 []
  exact this.trans (NF_pow _)
theorem nf_p_mid {n : Nat} (p : Pm n) (h1 : p ≠ one n) (h2 : p ≠ top n) : (gar n).NF (0, [p]) = (0, [p]) := by
  refine (gar n).NF_nrm ⟨show (gar n).Wt [p] by unfold Gar.Wt; trivial, fun x hx => ?_⟩ 0
  rw [List.mem_singleton] at hx
  rw [hx]; exact ⟨h1, h2⟩
theorem top_one_small {n : Nat} (h : n < 2) (p : Pm n) : p = one n := all_one h p
theorem nf_p_pow {n : Nat} (p : Pm n) : 0 ≤ ((gar n).NF (0, [p])).1 := by
  rcases Classical.em (p = one n) with h1 | h1
  · rw [h1, nf_p_one]; exact Int.le_refl _
  · rcases Classical.em (p = top n) with h2 | h2
    · have hn : 2 ≤ n := by
        rcases Nat.lt_or_ge n 2 with h | h
        · exact absurd (all_one h p) h1
        · exact h
      rw [h2, nf_p_top hn]; exact Int.le_of_lt Int.zero_lt_one
    · rw [nf_p_mid p h1 h2]; exact Int.le_refl _
theorem nfw_letters {n : Nat} (p : Pm n) : nfW n (lettersF p.1) = (gar n).NF (0, [p]) := (wd_letters p).stps (0, [])
theorem nfw_start {n : Nat} (p : Pm n) {k : Nat} (hk : k < n) (h0 : 0 < k) (hle : le (sg n k hk) p) :
    nfW n (-(k : Int) :: lettersF p.1) = (gar n).NF (0, [mul (sg n k hk) p]) := by
  have hne : (gar n).top ≠ (gar n).one := top_ne_one (by omega)
  have e1 : ltr n (-(k : Int)) = (false, sgT n k) := by
    unfold ltr
    rw [decide_eq_false (by omega), Int.natAbs_neg, Int.natAbs_natCast]
  have e2 : ltr n (k : Int) = (true, sgT n k) := by
    unfold ltr
    rw [decide_eq_true (by omega), Int.natAbs_natCast]
  have hw1 := (wd_letters p).stps ((gar n).stp (0, []) (false, sgT n k))
  have hw2 := (Wd.cons k hk h0 _ p hle (wd_letters (mul (sg n k hk) p))).stps ((gar n).stp (0, []) (false, sgT n k))
  have e3 : lts n ((k : Int) :: lettersF (mul (sg n k hk) p).1) = (true, sgT n k) :: lts n (lettersF (mul (sg n k hk) p).1) := by rw [← e2]; rfl
  have e4 : lts n (-(k : Int) :: lettersF p.1) = (false, sgT n k) :: lts n (lettersF p.1) := by rw [← e1]; rfl
  rw [e3, (gar n).stps_cons] at hw2
  have hc := (gar n).NF_cancel hne (0, []) false (sgT n k)
  have hw3 := (gar n).NF_stps_congr hc (lts n (lettersF (mul (sg n k hk) p).1))
  show (gar n).NF ((gar n).stps (0, []) (lts n (-(k : Int) :: lettersF p.1))) = _
  rw [e4, (gar n).stps_cons, hw1, ← hw2]
  refine hw3.trans ?_
  exact (wd_letters (mul (sg n k hk) p)).stps (0, [])
theorem nfw_start_pow {n : Nat} (p : Pm n) {k : Nat} (hk : k < n) (h0 : 0 < k) (hle : le (sg n k hk) p) : 0 ≤ (nfW n (-(k : Int) :: lettersF p.1)).1 := by
  rw [nfw_start p hk h0 hle]; exact nf_p_pow _

end Go.Proofs.Ytmeccemnmkobbaa

namespace Go.Proofs.Ytmeccemnmkobbaa
open Go.RowKit
open Pm

set_option maxRecDepth 100000 in
set_option maxHeartbeats 1000000 in
theorem d8same (v u : Value) (l m : List Int) (w : World) (h : Reads w v (ints l)) (h' : Reads w u (ints m)) :
    Calls Try.prog 22 #[v, u] w fun e w' => e = .returned (.bool (decide (l = m))) ∧ Below w.heap.size w w' := by
  have hs := h.small
  have hs' := h'.small
  simp only [length_ints] at hs hs'
  have hlen := h.len (P := Try.prog) 32 3 ⟨_, sliceI⟩
  have hlen' := h'.len (P := Try.prog) 32 3 ⟨_, sliceI⟩
  simp only [length_ints] at hlen hlen'
  by_cases hne : l.length = m.length
  · have hb : ((l.length : Int) != (m.length : Int)) = false := by simp [hne]
    go_enter Try.func22, Try.ntmps22
    go_wp2_with fail
    go_loopw [5] (fun i wr => ∃ k : Nat, k ≤ l.length ∧ i = .int .i64 k ∧ (∀ j, j < k → nth l j = nth m j) ∧ Below w.heap.size w wr) (fun i _ => l.length - (intOf i).toNat)
    case atStart =>
      exact ⟨0, by omega, rfl, by omega, Below.refl _ _⟩
    case round =>
      obtain ⟨k, hk, rfl, heq, hb⟩ := hrel
      by_cases hlt : k < l.length
      · have hltm : k < m.length := by omega
        have hi := h.idx 32 sliceI sizeI .i64 k (by omega) (by simpa using hlt)
        have hi2 := h'.idx 32 sliceI sizeI .i64 k (by omega) (by simpa using hltm)
        simp only [Int.toNat_natCast] at hi hi2
        have hc := (h.below hb).int hlt
        have hc2 := (h'.below hb).int hltm
        clear hne
        go_wp2_with fail
        go_quiet (fail)
        go_wp2_with fail
        · go_ret
          have hx := ne_nth ‹_›
          exact ⟨by simp [hx], below_drewN hb _⟩
        · go_roundw
          case rel => exact ⟨k + 1, by omega, by go_num, forall_snoc heq (eq_nth ‹_›), below_drewN hb _⟩
          case measure => simp [intOf]; omega
      · obtain rfl : k = l.length := by omega
        have hx : l = m := ext_nth hne heq
        clear hne
        go_wp2_with fail
        go_ret
        exact ⟨by simp [hx], hb⟩
  · have hx : l ≠ m := fun e => hne (by rw [e])
    have hb : ((l.length : Int) != (m.length : Int)) = true := by rw [bne_iff_ne]; omega
    clear hne
    go_enter Try.func22, Try.ntmps22
    go_wp2_with fail
    go_ret
    exact ⟨by simp [hx], Below.refl _ _⟩
theorem d8yes (v u : Value) (l : List Int) (w : World) (h : Reads w v (ints l)) (h' : Reads w u (ints l)) :
    Calls Try.prog 22 #[v, u] w fun e w' => e = .returned (.bool true) ∧ Below w.heap.size w w' := by
  have := d8same v u l l w h h'
  rwa [decide_eq_true rfl] at this

/-! permutations of at most eight things -/
theorem inv_bd8 {n : Nat} (p : Pm n) (hn : n ≤ 8) : invsF p.1 ≤ 28 := by
  have h1 : ∀ k, sumTo (fun j => cnt (fun i => decide (nth p.1 j < nth p.1 i)) j) k ≤ sumTo (fun j : Nat => (j : Int)) k := by
    intro k
    induction k with
    | zero => exact Int.le_refl _
    | succ k ih =>
      rw [sumTo_succ, sumTo_succ]
      have := cnt_le (fun i => decide (nth p.1 k < nth p.1 i)) k
      omega
  have h2 : ∀ k, k ≤ 8 → sumTo (fun j : Nat => (j : Int)) k ≤ 28 := by
    intro k hk
    have : k = 0 ∨ k = 1 ∨ k = 2 ∨ k = 3 ∨ k = 4 ∨ k = 5 ∨ k = 6 ∨ k = 7 ∨ k = 8 := by omega
    rcases this with rfl | rfl | rfl | rfl | rfl | rfl | rfl | rfl | rfl <;> decide
  unfold invsF
  have h3 := h1 p.1.length
  have h4 := h2 p.1.length (by rw [p.len]; exact hn)
  omega
theorem let_len {n : Nat} (p : Pm n) : ((lettersF p.1).length : Int) = invsF p.1 := by rw [length_lettersF]; exact (red_sorts p).2
theorem let_le {n : Nat} (p : Pm n) (hn : n ≤ 8) : (lettersF p.1).length ≤ 28 := by have := let_len p; have := inv_bd8 p hn; omega
theorem let_wok {n : Nat} (p : Pm n) : Wok n (lettersF p.1) := Wok.mk' fun k hk => by
  have := (wd_letters p).pos k hk
  exact ⟨by omega, by omega, by omega⟩
theorem let_ok {n : Nat} (p : Pm n) (hn : n ≤ 8) : okB (n : Int) (lettersF p.1) = true := okB_mk (by omega) (by have := let_le p hn; omega) (let_wok p)
theorem okP8 {n : Nat} (p : Pm n) (hn : n ≤ 8) : okP p.1 = true := okP_mk (by rw [p.len]; omega) p.2.2
theorem code8 {n : Nat} (p : Pm n) (hn : n ≤ 8) : codePB p.1 = 0 := by
  unfold codePB
  rw [okP8 p hn, if_pos rfl, if_pos (by have := let_le p hn; omega)]
theorem exch_let {n : Nat} (p : Pm n) : exchL (lettersF p.1) = redF p.1 := by
  have hp := (wd_letters p).pos
  unfold exchL lettersF at *
  rw [List.map_map]
  refine (List.map_congr_left fun k hk => ?_).trans (List.map_id _)
  have h1 := hp (k + 1) (List.mem_map.2 ⟨k, hk, rfl⟩)
  show absI (k + 1) - 1 = id k
  unfold absI
  rw [if_neg (by omega)]
  show k + 1 - 1 = k
  omega
theorem perm8 {n : Nat} (p : Pm n) (hn : n ≤ 8) : permB (n : Int) (lettersF p.1) = p.1 := by
  unfold permB
  rw [let_ok p hn, if_pos rfl, exch_let, Int.toNat_natCast]
  exact red_word p
theorem flip2 {n : Nat} (p : Pm n) : flipF (flipF p.1) = p.1 := by
  rw [flip_val p, flip_val, (gar n).tau_tau]
/-- what the letters that can begin are -/
theorem start_mem {n : Nat} (p : Pm n) {x : Int} (hx : x ∈ startF p.1) : ∃ (k : Nat) (hk : k < n), x = (k : Int) ∧ 0 < k ∧ le (sg n k hk) p := by
  unfold startF listTo at hx
  rw [List.mem_map] at hx
  obtain ⟨j, hj, rfl⟩ := hx
  rw [List.mem_filter, List.mem_range, p.len] at hj
  obtain ⟨hj1, hj2⟩ := hj
  refine ⟨j + 1, by omega, by omega, by omega, ?_⟩
  rw [le_sg p (by omega) (by omega), Nat.add_sub_cancel]
  unfold isDesc at hj2
  have h3 := of_decide_eq_true hj2
  have a1 := p.nth_at (i := j + 1) (by omega)
  have a2 := p.nth_at (i := j) (by omega)
  omega

theorem pb8 {n : Nat} (p : Pm n) (hn : n ≤ 8) (v : Value) (w : World) (h : Reads w v (ints p.1)) :
    Calls Try.prog 19 #[v] w fun e w' => ∃ x, e = .returned (.tuple #[.agg #[.int .i64 n, x], .int .i64 0]) ∧ Reads w' x (ints (lettersF p.1)) ∧ Below w.heap.size w w' := by
  refine (pb_impl v p.1 w h).mono ?_
  rintro e w' ⟨x, rfl, ho, hb⟩
  have e1 : nPB p.1 = n := by unfold nPB; rw [if_pos (code8 p hn), p.len]
  have e2 : lPB p.1 = lettersF p.1 := by unfold lPB; rw [if_pos (code8 p hn)]
  rw [e2] at ho
  exact ⟨x, by rw [e1, code8 p hn], ho.reads, hb⟩
theorem vb8 {n : Nat} (p : Pm n) (hn : n ≤ 8) (v : Value) (w : World) (h : Reads w v (ints (lettersF p.1))) :
    Calls Try.prog 20 #[.agg #[.int .i64 n, v]] w fun e w' => e = .returned (.bool true) ∧ Below w.heap.size w w' := by
  have := vb_spec n v _ w h
  rwa [let_ok p hn] at this
theorem in8 {n : Nat} (p : Pm n) (hn : n ≤ 8) (v : Value) (w : World) (h : Reads w v (ints p.1)) :
    Calls Try.prog 21 #[v] w fun e w' => e = .returned (.int .i64 ((lettersF p.1).length : Int)) ∧ Below w.heap.size w w' := by
  have := InversionsS v p.1 w h
  rw [okP8 p hn] at this
  rw [let_len]
  exact this
theorem bp8 {n : Nat} (p : Pm n) (hn : n ≤ 8) (v : Value) (w : World) (h : Reads w v (ints (lettersF p.1))) :
    Calls Try.prog 23 #[.agg #[.int .i64 n, v]] w fun e w' => ∃ x, e = .returned x ∧ Reads w' x (ints p.1) ∧ Below w.heap.size w w' := by
  refine (bp_spec n v _ w h).mono ?_
  rintro e w' ⟨x, rfl, ho, hb⟩
  rw [perm8 p hn] at ho
  exact ⟨x, rfl, ho.reads, hb⟩
theorem st8 {n : Nat} (p : Pm n) (hn : n ≤ 8) (v : Value) (w : World) (h : Reads w v (ints p.1)) :
    Calls Try.prog 24 #[v] w fun e w' => ∃ x, e = .returned x ∧ Reads w' x (ints (startF p.1)) ∧ Below w.heap.size w w' := by
  refine (StartI v p.1 w h).mono ?_
  rintro e w' ⟨x, rfl, ho, hb⟩
  rw [okP8 p hn] at ho
  exact ⟨x, rfl, ho.reads, hb⟩
theorem flip8 {n : Nat} (p : Pm n) (hn : n ≤ 8) (v : Value) (w : World) (h : Reads w v (ints p.1)) :
    Calls Try.prog 28 #[v] w fun e w' => ∃ x, e = .returned x ∧ Reads w' x (ints ((gar n).tau p).1) ∧ Below w.heap.size w w' := by
  refine (FlipI v p.1 w h).mono ?_
  rintro e w' ⟨x, rfl, ho, hb⟩
  rw [okP8 p hn] at ho
  rw [← flip_val]
  exact ⟨x, rfl, ho.reads, hb⟩
theorem half8 {n : Nat} (hn : n ≤ 8) (w : World) :
    Calls Try.prog 27 #[.int .i64 n] w fun e w' => ∃ x, e = .returned x ∧ Reads w' x (ints (top n).1) ∧ Below w.heap.size w w' := by
  refine (HalfI n w).mono ?_
  rintro e w' ⟨x, rfl, ho, hb⟩
  rw [show inB (n : Int) 0 12 = true by simp [inB]; omega, Int.toNat_natCast] at ho
  rw [← half_val]
  exact ⟨x, rfl, ho.reads, hb⟩
theorem jn8 {n : Nat} (p : Pm n) (hn : n ≤ 8) {k : Nat} (hk : k < n) (h0 : 0 < k) (v u : Value) (w : World) (h : Reads w v (ints [-(k : Int)])) (h' : Reads w u (ints (lettersF p.1))) :
    Calls Try.prog 25 #[.agg #[.int .i64 n, v], .agg #[.int .i64 n, u]] w fun e w' => ∃ x, e = .returned (.tuple #[.agg #[.int .i64 n, x], .int .i64 0]) ∧ Own w' w.heap.size 2 x (ints (-(k : Int) :: lettersF p.1)) ∧ Below w.heap.size w w' := by
  have e := okB_mk (n := n) (l := [-(k : Int)]) (by omega) (by simp) (Wok.mk' fun x hx => by rw [List.mem_singleton] at hx; subst hx; exact ⟨by omega, by omega, by omega⟩)
  have e' := let_ok p hn
  have hl := let_le p hn
  have hc : codeJ n [-(k : Int)] n (lettersF p.1) = 0 := by unfold codeJ; rw [e, e', if_pos (show (true && true) = true from rfl), if_pos rfl, if_pos (by rw [List.length_singleton]; omega)]
  refine (vjoin_spec n v _ n u _ w h h').mono ?_
  rintro e2 w' ⟨x, rfl, ho, hb⟩
  have e3 : lJ (n : Int) [-(k : Int)] n (lettersF p.1) = -(k : Int) :: lettersF p.1 := by unfold lJ; rw [hc]; rfl
  refine ⟨x, ?_, by rw [← e3]; exact ho, hb⟩
  unfold nJ; rw [hc]; rfl
theorem nfs8 {n : Nat} (p : Pm n) (hn : n ≤ 8) {k : Nat} (hk : k < n) (h0 : 0 < k) (v : Value) (w : World) (h : Reads w v (ints (-(k : Int) :: lettersF p.1))) :
    Calls Try.prog 26 #[.agg #[.int .i64 n, v]] w fun e w' => ∃ x, e = .returned (.tuple #[.agg #[.int .i64 n, .int .i64 (nfW n (-(k : Int) :: lettersF p.1)).1, x], .bool true]) ∧ ReadsII w' x (vals (nfW n (-(k : Int) :: lettersF p.1)).2) ∧ Below w.heap.size w w' :=
  nf_ok (by omega) (by have := let_le p hn; rw [List.length_cons]; omega) (Wok.mk' fun x hx => by
    rcases List.mem_cons.1 hx with rfl | hx
    · exact ⟨by omega, by omega, by omega⟩
    · have := (wd_letters p).pos x hx; exact ⟨by omega, by omega, by omega⟩) v w h

end Go.Proofs.Ytmeccemnmkobbaa

namespace Go.Proofs.Ytmeccemnmkobbaa
open Go.RowKit

/-- a call with one argument, wanted -/
theorem step_callw {P : Program} {w : World} {ops : Array Oper} {o : Oper} {a : Act} {K : Act → World → Prop} {Q : Exit → Act → World → Prop} {E : Prop} {f : FuncId} {u : Value} {T : TypeId} {R : Ending → World → Prop}
    (hc : Calls P f #[u] w R) (hf : ∀ w, (callFunc f #[u]).run P w = .ok (.enter f #[u]) w) (hw : Region.wanted o (yielded ops a.tmps) = true) (x : Operand)
    (ho : o.op = .call { callee := .value (.func f), args := #[x], argTypes := #[T] }) (hx : a.eval x = u)
    (hK : ∀ e w', R e w' → ∃ v, e = .returned v ∧ K (a.put o.dst v) w') : if Region.wanted o (yielded ops a.tmps) = true then Oper.wp P o a w K Q else E := by
  rw [if_pos hw]
  unfold Oper.wp
  have hr : (execOp a.eval o).run P w = .ok (.enter f #[u]) w := by
    have hx' : Act.eval a x = u := hx
    have h0 : a.eval (.func f) = .func (.func f) #[] #[] := rfl
    simp [execOp, ho, resolve, invoke, hx', h0, Deferred.ofValue, hf]
  rw [hr]
  refine hc.mono ?_
  intro e w' hr
  obtain ⟨v, rfl, hk⟩ := hK e w' hr
  exact hk

/-- a call with two arguments, wanted -/
theorem step_callw2 {P : Program} {w : World} {ops : Array Oper} {o : Oper} {a : Act} {K : Act → World → Prop} {Q : Exit → Act → World → Prop} {E : Prop} {f : FuncId} {u1 u2 : Value} {T1 T2 : TypeId} {R : Ending → World → Prop}
    (hc : Calls P f #[u1, u2] w R) (hf : ∀ w, (callFunc f #[u1, u2]).run P w = .ok (.enter f #[u1, u2]) w) (hw : Region.wanted o (yielded ops a.tmps) = true) (x y : Operand)
    (ho : o.op = .call { callee := .value (.func f), args := #[x, y], argTypes := #[T1, T2] }) (hx : a.eval x = u1) (hy : a.eval y = u2)
    (hK : ∀ e w', R e w' → ∃ v, e = .returned v ∧ K (a.put o.dst v) w') : if Region.wanted o (yielded ops a.tmps) = true then Oper.wp P o a w K Q else E := by
  rw [if_pos hw]
  unfold Oper.wp
  have hr : (execOp a.eval o).run P w = .ok (.enter f #[u1, u2]) w := by
    have hx' : Act.eval a x = u1 := hx
    have hy' : Act.eval a y = u2 := hy
    have h0 : a.eval (.func f) = .func (.func f) #[] #[] := rfl
    simp [execOp, ho, resolve, invoke, hx', hy', h0, Deferred.ofValue, hf]
  rw [hr]
  refine hc.mono ?_
  intro e w' hr
  obtain ⟨v, rfl, hk⟩ := hK e w' hr
  exact hk

end Go.Proofs.Ytmeccemnmkobbaa

namespace Go.Proofs.Ytmeccemnmkobbaa
open Go.RowKit
open Pm
set_option linter.unusedSimpArgs false

theorem below_drew_self {a w : World} (h : Below a.heap.size a w) : Below a.heap.size a w.drew := h.drew
theorem nfb8 {n : Nat} (p : Pm n) (hn : n ≤ 8) {P : Int} {L : List (Pm n)} {k : Nat} (hE : nfW n (lettersF p.1) = (P, L)) (hk : L.length = k) (v : Value) (w : World) (h : Reads w v (ints (lettersF p.1))) :
    Calls Try.prog 26 #[.agg #[.int .i64 n, v]] w fun e w' => ∃ a c, e = .returned (.tuple #[.agg #[.int .i64 n, .int .i64 P, .slice a k c], .bool true]) ∧ ReadsII w' (.slice a k c) (vals L) ∧ Below w.heap.size w w' := by
  refine (nf_ok (by omega) (by have := let_le p hn; omega) (let_wok p) v w h).mono ?_
  rintro e w' ⟨x, rfl, hx, hb⟩
  rw [hE] at hx ⊢
  obtain ⟨vs, hv, hvr⟩ := hx
  obtain ⟨a, c, rfl, -⟩ := hv.form
  have hl : vs.length = k := by rw [hvr.len]; unfold vals; rw [List.length_map]; exact hk
  refine ⟨a, c, by rw [hl], ?_, hb⟩
  rw [← hl]; exact ⟨vs, hv, hvr⟩
theorem let_nil {n : Nat} (p : Pm n) : lettersF p.1 = [] ↔ p = one n := by
  constructor
  · intro h
    have h1 : redF p.1 = [] := by unfold lettersF at h; simpa using h
    have h2 := (red_sorts p).1
    rw [h1] at h2
    exact Subtype.ext h2
  · rintro rfl
    refine List.eq_nil_of_length_eq_zero ?_
    have h1 := let_len (one n)
    have h2 : invsF (one n).1 = 0 := ni_one
    omega
theorem top_two {n : Nat} (p : Pm n) (h : p ≠ one n) : 2 ≤ n := by
  rcases Nat.lt_or_ge n 2 with h2 | h2
  · exact absurd (all_one h2 p) h
  · exact h2
theorem reads_from {P : Program} {f : FuncId} {args : Array Value} {a w : World} {R : World → Value → Prop} (hc : Calls P f args w fun e w' => ∃ x, e = .returned x ∧ R w' x ∧ Below w.heap.size w w') (h : Below a.heap.size a w) : Calls P f args w fun e w' => ∃ x, e = .returned x ∧ R w' x ∧ Below a.heap.size a w' :=
  hc.mono fun _ _ ⟨x, h1, h2, h3⟩ => ⟨x, h1, h2, h.trans (h3.mono h.size)⟩


set_option maxRecDepth 100000 in
set_option maxHeartbeats 16000000 in
theorem walk_FnPermutationBraids (a0 : Value) (cs : List Int) (W : World) (h0 : Reads W a0 (bytes cs)) (hr : ∀ i, i < cs.length → 0 ≤ nth cs i ∧ nth cs i ≤ 255) :
    Calls Try.prog 4 #[a0] W fun e w' => e = .returned (.bool true) ∧ Below W.heap.size W w' := by
  have hlen := h0.len (P := Try.prog) 31 3 ⟨_, sliceY⟩
  rw [length_bytes] at hlen
  have hb : Below W.heap.size W W := Below.refl _ _
  go_enter Try.func4, Try.ntmps4
  by_cases hl : (1048576 : Int) < cs.length
  · go_wp2_with fail
    go_ret
    exact ⟨rfl, hb⟩
  go_wp2_with fail
  clear hlen
  refine (e8perm a0 cs W h0 hr (by omega)).mono ?_
  rintro e w1 ⟨u, l, rfl, hu, hl8, hpm, hs⟩
  replace hb := hb.trans (hs.mono hb.size)
  clear hs
  clear h0 hr
  replace hu := hu.reads
  obtain ⟨n, p, hn8, rfl⟩ : ∃ (n : Nat) (p : Pm n), n ≤ 8 ∧ l = p.1 := ⟨l.length, ⟨l, rfl, hpm⟩, hl8, rfl⟩
  clear hl8 hpm
  have hlu := hu.len (P := Try.prog) 32 3 ⟨_, sliceI⟩
  rw [length_ints, p.len] at hlu
  go_wp2_with fail
  refine (pb8 p hn8 _ _ hu).mono ?_
  rintro e w2 ⟨x, rfl, hx, hs⟩
  replace hu := hu.below hs
  replace hb := hb.trans (hs.mono hb.size)
  clear hs
  have hll := hid (let_le p hn8)
  obtain ⟨xa, xc, hxe, -⟩ := hx.form
  rw [length_ints] at hxe
  obtain ⟨m, hm⟩ : ∃ m, (lettersF p.1).length = m := ⟨_, rfl⟩
  rw [hm] at hxe
  subst hxe
  have hm28 : m ≤ 28 := by have := hll.out; rw [hm] at this; exact this
  replace hm := hid hm
  replace hu := hu.alloc (.cells #[.int .i64 n, .slice xa m xc] 35)
  replace hx := hx.alloc (.cells #[.int .i64 n, .slice xa m xc] 35)
  have hB := Bx.new w2 #[.int .i64 n, .slice xa m xc] 35
  replace hb := hb.alloc hb.size (.cells #[.int .i64 n, .slice xa m xc] 35)
  have c_b0 := hB.cell 0 rfl
  have c_b1 := hB.cell 1 rfl
  go_wp2_with fail
  clear c_b0 c_b1
  generalize (w2.alloc (.cells #[.int .i64 n, .slice xa m xc] 35)) = w3 at *
  have hK := hid (fun (w' : World) (h : Below w3.heap.size w3 w') => (⟨(hB.below h).cell 0 rfl, (hB.below h).cell 1 rfl⟩ : w'.cell? ⟨w2.heap.size, 0, none⟩ = some (.int .i64 n) ∧ w'.cell? ⟨w2.heap.size, 1, none⟩ = some (.slice xa m xc)))
  have hbD : Below w3.heap.size w3 w3.drew := (Below.refl _ _).drew
  have hC1 := hid (fun (w' : World) (h : Below w3.heap.size w3 w') => calls_from (vb8 p hn8 _ w' (hx.below h)) h)
  have hC2 := hid (fun (w' : World) (h : Below w3.heap.size w3 w') => by have := in8 p hn8 _ w' (hu.below h); rw [hm.out] at this; exact calls_from this h)
  have hC3 := hid (fun (w' : World) (h : Below w3.heap.size w3 w') => reads_from (R := fun w' x => Reads w' x (ints p.1)) (bp8 p hn8 _ w' (hx.below h)) h)
  have hC4 := hid (fun (w' : World) (v : Value) (hv : Reads w' v (ints p.1)) (h : Below w3.heap.size w3 w') => calls_from (d8yes _ _ p.1 w' hv (hu.below h)) h)
  have hnn : ((n : Int) != (n : Int)) = false := by simp
  have hmm : ((m : Int) != (m : Int)) = false := by simp
  refine wp_region_noPanic ?_
  refine wp_region_held_drew (S := fun w' => Below w3.heap.size w3 w' ∧ w'.cell? ⟨w2.heap.size, 0, none⟩ = some (.int .i64 n) ∧ w'.cell? ⟨w2.heap.size, 1, none⟩ = some (.slice xa m xc)) (by kernel_rfl) ?_ (fun hHeld => ?_)
  focus (first | exact ⟨hbD, hK.out _ hbD⟩ | exact ⟨by assumption, hK.out _ (by assumption)⟩)
  refine wpAnyH_take (i := 0) (v := ?_) rfl (by kernel_rfl) (by kernel_rfl) (by kernel_rfl) (fun _ _ _ h => h) (Or.inl ⟨by kernel_rfl, ?_⟩) (by assumption) ?_; rotate_left; (focus ((intro w hSw; (try dsimp only at hSw); go_simp) <;> with_reducible rfl)); (try dsimp [Act.put]); (try simp only [List.setIfInBounds_toArray, List.set_cons_zero, List.set_cons_succ])
  refine wpAnyH_take (i := 1) (v := ?_) rfl (by kernel_rfl) (by kernel_rfl) (by kernel_rfl) (fun _ _ _ h => h) (Or.inl ⟨by kernel_rfl, ?_⟩) (by assumption) ?_; rotate_left; (focus ((intro w hSw; (try dsimp only at hSw); go_simp) <;> with_reducible rfl)); (try dsimp [Act.put]); (try simp only [List.setIfInBounds_toArray, List.set_cons_zero, List.set_cons_succ])
  refine wpAnyH_take (i := 2) (v := ?_) rfl (by kernel_rfl) (by kernel_rfl) (by kernel_rfl) (fun _ _ _ h => h) (Or.inl ⟨by kernel_rfl, ?_⟩) (by assumption) ?_; rotate_left; (focus ((intro w hSw; (try dsimp only at hSw); go_simp) <;> with_reducible rfl)); (try dsimp [Act.put]); (try simp only [List.setIfInBounds_toArray, List.set_cons_zero, List.set_cons_succ])
  refine wpAnyH_take (i := 3) (v := ?_) rfl (by kernel_rfl) (by kernel_rfl) (by kernel_rfl) (fun _ _ _ h => h) (Or.inl ⟨by kernel_rfl, ?_⟩) (by assumption) ?_; rotate_left; (focus ((intro w hSw; (try dsimp only at hSw); go_simp) <;> with_reducible rfl)); (try dsimp [Act.put]); (try simp only [List.setIfInBounds_toArray, List.set_cons_zero, List.set_cons_succ])
  refine wpAnyH_ready (rs := [4]) (by kernel_rfl) (by simp) ?_
  refine AllReadyH.cons (o := { dst := some 31, op := .call { callee := .value (.func 20), args := #[.tmp 30], argTypes := #[35] }, type := _, pos := _, after := _, guard := _ }) rfl (fun KK hKK => ?_) AllReadyH.nil
  refine step_callw (hC1.out _ (by first | assumption | exact hHeld.1)) (fun _ => by kernel_rfl) (by kernel_rfl) (.tmp 30) rfl rfl ?_
  rintro e wa ⟨rfl, hba⟩
  refine ⟨_, rfl, ?_⟩
  refine hKK.out _ _ ?_ (fun hHeld => ?_)
  focus (first | exact ⟨hbD, hK.out _ hbD⟩ | exact ⟨by assumption, hK.out _ (by assumption)⟩)
  clear hKK KK
  (try dsimp [Act.put]); (try simp only [List.setIfInBounds_toArray, List.set_cons_zero, List.set_cons_succ])
  refine wpAnyH_take (i := 5) (v := ?_) rfl (by kernel_rfl) (by kernel_rfl) (by kernel_rfl) (fun _ _ _ h => h) (Or.inl ⟨by kernel_rfl, ?_⟩) (by assumption) ?_; rotate_left; (focus ((intro w hSw; (try dsimp only at hSw); go_simp) <;> with_reducible rfl)); (try dsimp [Act.put]); (try simp only [List.setIfInBounds_toArray, List.set_cons_zero, List.set_cons_succ])
  refine wpAnyH_take (i := 6) (v := ?_) rfl (by kernel_rfl) (by kernel_rfl) (by kernel_rfl) (fun _ _ _ h => h) (Or.inl ⟨by kernel_rfl, ?_⟩) (by assumption) ?_; rotate_left; (focus ((intro w hSw; (try dsimp only at hSw); go_simp) <;> with_reducible rfl)); (try dsimp [Act.put]); (try simp only [List.setIfInBounds_toArray, List.set_cons_zero, List.set_cons_succ])
  refine wpAnyH_take (i := 7) (v := ?_) rfl (by kernel_rfl) (by kernel_rfl) (by kernel_rfl) (fun _ _ _ h => h) (Or.inl ⟨by kernel_rfl, ?_⟩) (by assumption) ?_; rotate_left; (focus ((intro w hSw; (try dsimp only at hSw); go_simp) <;> with_reducible rfl)); (try dsimp [Act.put]); (try simp only [List.setIfInBounds_toArray, List.set_cons_zero, List.set_cons_succ])
  refine wpAnyH_take (i := 8) (v := ?_) rfl (by kernel_rfl) (by kernel_rfl) (by kernel_rfl) (fun _ _ _ h => h) (Or.inl ⟨by kernel_rfl, ?_⟩) (by assumption) ?_; rotate_left; (focus ((intro w hSw; (try dsimp only at hSw); go_simp) <;> with_reducible rfl)); (try dsimp [Act.put]); (try simp only [List.setIfInBounds_toArray, List.set_cons_zero, List.set_cons_succ])
  refine wpAnyH_take (i := 9) (v := ?_) rfl (by kernel_rfl) (by kernel_rfl) (by kernel_rfl) (fun _ _ _ h => h) (Or.inl ⟨by kernel_rfl, ?_⟩) (by assumption) ?_; rotate_left; (focus ((intro w hSw; (try dsimp only at hSw); go_simp) <;> with_reducible rfl)); (try dsimp [Act.put]); (try simp only [List.setIfInBounds_toArray, List.set_cons_zero, List.set_cons_succ])
  refine wpAnyH_take (i := 10) (v := ?_) rfl (by kernel_rfl) (by kernel_rfl) (by kernel_rfl) (fun _ _ _ h => h) (Or.inl ⟨by kernel_rfl, ?_⟩) (by assumption) ?_; rotate_left; (focus ((intro w hSw; (try dsimp only at hSw); go_simp) <;> with_reducible rfl)); (try dsimp [Act.put]); (try simp only [List.setIfInBounds_toArray, List.set_cons_zero, List.set_cons_succ])
  refine wpAnyH_take (i := 11) (v := ?_) rfl (by kernel_rfl) (by kernel_rfl) (by kernel_rfl) (fun _ _ _ h => h) (Or.inl ⟨by kernel_rfl, ?_⟩) (by assumption) ?_; rotate_left; (focus ((intro w hSw; (try dsimp only at hSw); go_simp) <;> with_reducible rfl)); (try dsimp [Act.put]); (try simp only [List.setIfInBounds_toArray, List.set_cons_zero, List.set_cons_succ])
  refine wpAnyH_take (i := 12) (v := ?_) rfl (by kernel_rfl) (by kernel_rfl) (by kernel_rfl) (fun _ _ _ h => h) (Or.inl ⟨by kernel_rfl, ?_⟩) (by assumption) ?_; rotate_left; (focus ((intro w hSw; (try dsimp only at hSw); go_simp) <;> with_reducible rfl)); (try dsimp [Act.put]); (try simp only [List.setIfInBounds_toArray, List.set_cons_zero, List.set_cons_succ])
  refine wpAnyH_take (i := 13) (v := ?_) rfl (by kernel_rfl) (by kernel_rfl) (by kernel_rfl) (fun _ _ _ h => h) (Or.inl ⟨by kernel_rfl, ?_⟩) (by assumption) ?_; rotate_left; (focus ((intro w hSw; (try dsimp only at hSw); go_simp) <;> with_reducible rfl)); (try dsimp [Act.put]); (try simp only [List.setIfInBounds_toArray, List.set_cons_zero, List.set_cons_succ])
  refine wpAnyH_take (i := 14) (v := ?_) rfl (by kernel_rfl) (by kernel_rfl) (by kernel_rfl) (fun _ _ _ h => h) (Or.inl ⟨by kernel_rfl, ?_⟩) (by assumption) ?_; rotate_left; (focus ((intro w hSw; (try dsimp only at hSw); go_simp) <;> with_reducible rfl)); (try dsimp [Act.put]); (try simp only [List.setIfInBounds_toArray, List.set_cons_zero, List.set_cons_succ])
  refine wpAnyH_take (i := 15) (v := ?_) rfl (by kernel_rfl) (by kernel_rfl) (by kernel_rfl) (fun _ _ _ h => h) (Or.inl ⟨by kernel_rfl, ?_⟩) (by assumption) ?_; rotate_left; (focus ((intro w hSw; (try dsimp only at hSw); go_simp) <;> with_reducible rfl)); (try dsimp [Act.put]); (try simp only [List.setIfInBounds_toArray, List.set_cons_zero, List.set_cons_succ])
  refine wpAnyH_take (i := 16) (v := ?_) rfl (by kernel_rfl) (by kernel_rfl) (by kernel_rfl) (fun _ _ _ h => h) (Or.inl ⟨by kernel_rfl, ?_⟩) (by assumption) ?_; rotate_left; (focus ((intro w hSw; (try dsimp only at hSw); go_simp) <;> with_reducible rfl)); (try dsimp [Act.put]); (try simp only [List.setIfInBounds_toArray, List.set_cons_zero, List.set_cons_succ])
  refine wpAnyH_take (i := 17) (v := ?_) rfl (by kernel_rfl) (by kernel_rfl) (by kernel_rfl) (fun _ _ _ h => h) (Or.inl ⟨by kernel_rfl, ?_⟩) (by assumption) ?_; rotate_left; (focus ((intro w hSw; (try dsimp only at hSw); go_simp) <;> with_reducible rfl)); (try dsimp [Act.put]); (try simp only [List.setIfInBounds_toArray, List.set_cons_zero, List.set_cons_succ])
  refine wpAnyH_take (i := 18) (v := ?_) rfl (by kernel_rfl) (by kernel_rfl) (by kernel_rfl) (fun _ _ _ h => h) (Or.inl ⟨by kernel_rfl, ?_⟩) (by assumption) ?_; rotate_left; (focus ((intro w hSw; (try dsimp only at hSw); go_simp) <;> with_reducible rfl)); (try dsimp [Act.put]); (try simp only [List.setIfInBounds_toArray, List.set_cons_zero, List.set_cons_succ])
  refine wpAnyH_ready (rs := [19]) (by kernel_rfl) (by simp) ?_
  refine AllReadyH.cons (o := { dst := some 46, op := .call { callee := .value (.func 21), args := #[.tmp 45], argTypes := #[32] }, type := _, pos := _, after := _, guard := _ }) rfl (fun KK hKK => ?_) AllReadyH.nil
  refine step_callw (hC2.out _ (by first | assumption | exact hHeld.1)) (fun _ => by kernel_rfl) (by kernel_rfl) (.tmp 45) rfl rfl ?_
  rintro e wb ⟨rfl, hbb⟩
  refine ⟨_, rfl, ?_⟩
  refine hKK.out _ _ ?_ (fun hHeld => ?_)
  focus (first | exact ⟨hbD, hK.out _ hbD⟩ | exact ⟨by assumption, hK.out _ (by assumption)⟩)
  clear hKK KK
  (try dsimp [Act.put]); (try simp only [List.setIfInBounds_toArray, List.set_cons_zero, List.set_cons_succ])
  refine wpAnyH_take (i := 20) (v := ?_) rfl (by kernel_rfl) (by kernel_rfl) (by kernel_rfl) (fun _ _ _ h => h) (Or.inl ⟨by kernel_rfl, ?_⟩) (by assumption) ?_; rotate_left; (focus ((intro w hSw; (try dsimp only at hSw); go_simp) <;> with_reducible rfl)); (try dsimp [Act.put]); (try simp only [List.setIfInBounds_toArray, List.set_cons_zero, List.set_cons_succ])
  refine wpAnyH_take (i := 21) (v := ?_) rfl (by kernel_rfl) (by kernel_rfl) (by kernel_rfl) (fun _ _ _ h => h) (Or.inl ⟨by kernel_rfl, ?_⟩) (by assumption) ?_; rotate_left; (focus ((intro w hSw; (try dsimp only at hSw); go_simp) <;> with_reducible rfl)); (try dsimp [Act.put]); (try simp only [List.setIfInBounds_toArray, List.set_cons_zero, List.set_cons_succ])
  refine wpAnyH_take (i := 22) (v := ?_) rfl (by kernel_rfl) (by kernel_rfl) (by kernel_rfl) (fun _ _ _ h => h) (Or.inl ⟨by kernel_rfl, ?_⟩) (by assumption) ?_; rotate_left; (focus ((intro w hSw; (try dsimp only at hSw); go_simp) <;> with_reducible rfl)); (try dsimp [Act.put]); (try simp only [List.setIfInBounds_toArray, List.set_cons_zero, List.set_cons_succ])
  refine wpAnyH_take (i := 23) (v := ?_) rfl (by kernel_rfl) (by kernel_rfl) (by kernel_rfl) (fun _ _ _ h => h) (Or.inl ⟨by kernel_rfl, ?_⟩) (by assumption) ?_; rotate_left; (focus ((intro w hSw; (try dsimp only at hSw); go_simp) <;> with_reducible rfl)); (try dsimp [Act.put]); (try simp only [List.setIfInBounds_toArray, List.set_cons_zero, List.set_cons_succ])
  refine wpAnyH_take (i := 25) (v := ?_) rfl (by kernel_rfl) (by kernel_rfl) (by kernel_rfl) (fun _ _ _ h => h) (Or.inl ⟨by kernel_rfl, ?_⟩) (by assumption) ?_; rotate_left; (focus ((intro w hSw; (try dsimp only at hSw); go_simp) <;> with_reducible rfl)); (try dsimp [Act.put]); (try simp only [List.setIfInBounds_toArray, List.set_cons_zero, List.set_cons_succ])
  refine wpAnyH_ready (rs := [24]) (by kernel_rfl) (by simp) ?_
  refine AllReadyH.cons (o := { dst := some 51, op := .call { callee := .value (.func 23), args := #[.tmp 50], argTypes := #[35] }, type := _, pos := _, after := _, guard := _ }) rfl (fun KK hKK => ?_) AllReadyH.nil
  refine step_callw (hC3.out _ (by first | assumption | exact hHeld.1)) (fun _ => by kernel_rfl) (by kernel_rfl) (.tmp 50) rfl rfl ?_
  rintro e wc ⟨q, rfl, hq, hbc⟩
  refine ⟨_, rfl, ?_⟩
  refine hKK.out _ _ ?_ (fun hHeld => ?_)
  focus (first | exact ⟨hbD, hK.out _ hbD⟩ | exact ⟨by assumption, hK.out _ (by assumption)⟩)
  clear hKK KK
  (try dsimp [Act.put]); (try simp only [List.setIfInBounds_toArray, List.set_cons_zero, List.set_cons_succ])
  refine wpAnyH_ready (rs := [26]) (by kernel_rfl) (by simp) ?_
  refine AllReadyH.cons (o := { dst := some 53, op := .call { callee := .value (.func 22), args := #[.tmp 51, .tmp 52], argTypes := #[32, 32] }, type := _, pos := _, after := _, guard := _ }) rfl (fun KK hKK => ?_) AllReadyH.nil
  refine step_callw2 (hC4.out _ _ hq hbc) (fun _ => by kernel_rfl) (by kernel_rfl) (.tmp 51) (.tmp 52) rfl rfl rfl ?_
  rintro e wd ⟨rfl, hbd⟩
  refine ⟨_, rfl, ?_⟩
  refine hKK.out _ _ ?_ (fun hHeld => ?_)
  focus (first | exact ⟨hbD, hK.out _ hbD⟩ | exact ⟨by assumption, hK.out _ (by assumption)⟩)
  clear hKK KK
  (try dsimp [Act.put]); (try simp only [List.setIfInBounds_toArray, List.set_cons_zero, List.set_cons_succ])
  refine wpAnyH_take (i := 27) (v := ?_) rfl (by kernel_rfl) (by kernel_rfl) (by kernel_rfl) (fun _ _ _ h => h) (Or.inl ⟨by kernel_rfl, ?_⟩) (by assumption) ?_; rotate_left; (focus ((intro w hSw; (try dsimp only at hSw); go_simp) <;> with_reducible rfl)); (try dsimp [Act.put]); (try simp only [List.setIfInBounds_toArray, List.set_cons_zero, List.set_cons_succ])
  refine wpAnyH_take (i := 28) (v := ?_) rfl (by kernel_rfl) (by kernel_rfl) (by kernel_rfl) (fun _ _ _ h => h) (Or.inl ⟨by kernel_rfl, ?_⟩) (by assumption) ?_; rotate_left; (focus ((intro w hSw; (try dsimp only at hSw); go_simp) <;> with_reducible rfl)); (try dsimp [Act.put]); (try simp only [List.setIfInBounds_toArray, List.set_cons_zero, List.set_cons_succ])
  refine wpAnyH_done (by kernel_rfl) ?_ _
  refine NoPanic.normal ?_
  clear hC1 hC2 hC3 hC4 hHeld hba hbb hbc hq hK hbD hnn hmm
  replace hu := hu.below hbd
  replace hx := hx.below hbd
  replace hB := hB.below hbd
  replace hb := hb.trans (hbd.mono hb.size)
  clear hbd
  have c_b0 := hB.cell 0 rfl
  have c_b1 := hB.cell 1 rfl
  go_wp2_with fail
  go_loop [6] (fun i => ∃ k : Nat, k ≤ m ∧ i = .int .i64 k) (fun i => m - (intOf i).toNat)
  case atStart => exact ⟨0, by omega, rfl⟩
  case round =>
  obtain ⟨k, hk, rfl⟩ := hrel
  by_cases hlt : k < m
  case pos =>
    have hi := hx.idx (P := Try.prog) 32 sliceI sizeI .i64 (k : Int) (by omega) (by rw [length_ints, hm.out]; omega)
    simp only [Int.toNat_natCast] at hi
    have hc := hx.cell k _ (ints_at (by rw [hm.out]; exact hlt))
    have hpos := ((wd_letters p).pos _ (nth_in (l := lettersF p.1) (i := k) (by rw [hm.out]; exact hlt))).1
    generalize nth (lettersF p.1) k = y at *
    have hneg : ¬ y < 0 := by omega
    clear hpos
    go_wp2_with fail
    go_round
    case rel => exact ⟨k + 1, by omega, by go_num⟩
    case measure => simp [intOf] <;> omega
  case neg =>
  obtain rfl : m = k := by omega
  clear hlt hk
  go_wp2_with fail
  clear c_b0 c_b1
  refine (st8 p hn8 _ _ hu).mono ?_
  rintro e w4 ⟨s, rfl, hst, hs⟩
  replace hu := hu.below hs
  replace hx := hx.below hs
  replace hB := hB.below hs
  replace hb := hb.trans (hs.mono hb.size)
  clear hs
  have hls := hst.len (P := Try.prog) 32 3 ⟨_, sliceI⟩
  rw [length_ints] at hls
  have hsl : (startF p.1).length ≤ 1000 := by have := List.length_filter_le (isDesc p.1) (List.range (p.1.length - 1)); rw [List.length_range, p.len] at this; unfold startF listTo; rw [List.length_map]; rw [p.len]; omega
  have c_b0 := hB.cell 0 rfl
  have c_b1 := hB.cell 1 rfl
  go_wp2_with fail
  go_loopw [8, 9, 10, 11, 12] (fun i _ _ _ _ wr => ∃ k : Nat, k ≤ (startF p.1).length ∧ i = .int .i64 k ∧ Below w4.heap.size w4 wr) (fun i _ _ _ _ _ => (startF p.1).length - (intOf i).toNat)
  case atStart => exact ⟨0, by omega, rfl, Below.refl _ _⟩
  case round =>
  clear c_b0 c_b1
  obtain ⟨k, hk, rfl, hbr⟩ := hrel
  by_cases hlt : k < (startF p.1).length
  case pos =>
    obtain ⟨j, hjn, hje, hj0, hle⟩ := start_mem p (nth_in hlt)
    have hB1 := hB.below hbr
    have hx1 := hx.below hbr
    have hs1 := hst.below hbr
    have hi := hst.idx (P := Try.prog) 32 sliceI sizeI .i64 (k : Int) (by omega) (by rw [length_ints]; omega)
    simp only [Int.toNat_natCast] at hi
    have hK := hid (fun (w' : World) (h : Below wr.heap.size wr w') => (⟨(hB1.below h).cell 0 rfl, (hB1.below h).cell 1 rfl, by have := (hs1.below h).cell k _ (ints_at hlt); rwa [hje] at this⟩ : w'.cell? ⟨w2.heap.size, 0, none⟩ = some (.int .i64 n) ∧ w'.cell? ⟨w2.heap.size, 1, none⟩ = some (.slice xa m xc) ∧ w'.cell? (adr s k) = some (.int .i64 (j : Int))))
    have hCN := hid (fun (v : Value) (w' : World) (h : Reads w' v (ints (-(j : Int) :: lettersF p.1))) => nfs8 p hn8 hjn hj0 v w' h)
    have hCJ := hid (fun (w' : World) (v : Value) (hv : Reads w' v (ints [-(j : Int)])) (h : Below wr.heap.size wr w') => jn8 p hn8 hjn hj0 v _ w' hv (hx1.below h))
    have hPn := hid (nfw_start_pow p hjn hj0 hle)
    have hwj := Go.IntWalk.i64_in (-(j : Int)) (by omega)
    have hS0 := (Below.refl wr.heap.size wr)
    have hv1 := hid (show Reads (wr.alloc (.cells #[.int .i64 (-(j : Int))] 2)).drew (.slice (some ⟨wr.heap.size, 0, none⟩) 1 1) (ints [-(j : Int)]) from (reads_one wr (.int .i64 (-(j : Int))) 2).drewN 1)
    have hv2 := hid (show Reads ((wr.alloc (.cells #[.int .i64 (-(j : Int))] 2)).alloc (.cells #[.int .i64 0, .slice none 0 0] 35)).drew (.slice (some ⟨wr.heap.size, 0, none⟩) 1 1) (ints [-(j : Int)]) from (reads_alloc (reads_one wr (.int .i64 (-(j : Int))) 2) _).drewN 1)
    have hv3 := hid (show Reads ((wr.alloc (.cells #[.int .i64 0, .slice none 0 0] 35)).alloc (.cells #[.int .i64 (-(j : Int))] 2)).drew (.slice (some ⟨wr.heap.size + 1, 0, none⟩) 1 1) (ints [-(j : Int)]) from by have := (reads_one (wr.alloc (.cells #[.int .i64 0, .slice none 0 0] 35)) (.int .i64 (-(j : Int))) 2).drewN 1; simp only [World.size_alloc] at this; exact this)
    replace hjn := hid hjn
    replace hje := hid hje
    replace hle := hid hle
    replace hbr := hid hbr
    go_wp2_with fail
    refine wp_region_noPanic ?_
    refine wp_region_held_drew (S := fun w' => Below wr.heap.size wr w' ∧ w'.cell? ⟨w2.heap.size, 0, none⟩ = some (.int .i64 n) ∧ w'.cell? ⟨w2.heap.size, 1, none⟩ = some (.slice xa m xc) ∧ w'.cell? (adr s k) = some (.int .i64 (j : Int))) (by kernel_rfl) ?_ (fun hHeld => ?_)
    focus (first | exact ⟨below_set2 hbW (by omega) _ _, hK.out _ (below_set2 hbW (by omega) _ _)⟩ | exact ⟨by assumption, hK.out _ (by assumption)⟩ | exact ⟨(by repeat (first | assumption | exact Below.refl _ _ | apply below_alloc_self | apply below_drew_self)), hK.out _ (by repeat (first | assumption | exact Below.refl _ _ | apply below_alloc_self | apply below_drew_self))⟩)
    refine wpAnyH_take (i := 0) (v := ?_) rfl (by kernel_rfl) (by kernel_rfl) (by kernel_rfl) (fun _ _ _ h => h) (Or.inl ⟨by kernel_rfl, ?_⟩) (by assumption) ?_; rotate_left; (focus ((intro w hSw; (try dsimp only at hSw); go_simp) <;> with_reducible rfl)); (try dsimp [Act.put]); (try simp only [List.setIfInBounds_toArray, List.set_cons_zero, List.set_cons_succ])
    refine wpAnyH_take (i := 1) (v := ?_) rfl (by kernel_rfl) (by kernel_rfl) (by kernel_rfl) (fun _ _ _ h => h) (Or.inl ⟨by kernel_rfl, ?_⟩) (by assumption) ?_; rotate_left; (focus ((intro w hSw; (try dsimp only at hSw); go_simp) <;> with_reducible rfl)); (try dsimp [Act.put]); (try simp only [List.setIfInBounds_toArray, List.set_cons_zero, List.set_cons_succ])
    refine wpAnyH_take (i := 2) (v := ?_) rfl (by kernel_rfl) (by kernel_rfl) (by kernel_rfl) (fun _ _ _ h => h) (Or.inl ⟨by kernel_rfl, ?_⟩) (by assumption) ?_; rotate_left; (focus ((intro w hSw; (try dsimp only at hSw); go_simp) <;> with_reducible rfl)); (try dsimp [Act.put]); (try simp only [List.setIfInBounds_toArray, List.set_cons_zero, List.set_cons_succ])
    refine wpAnyH_take (i := 3) (v := ?_) rfl (by kernel_rfl) (by kernel_rfl) (by kernel_rfl) (fun _ _ _ h => h) (Or.inl ⟨by kernel_rfl, ?_⟩) (by assumption) ?_; rotate_left; (focus ((intro w hSw; (try dsimp only at hSw); go_simp) <;> with_reducible rfl)); (try dsimp [Act.put]); (try simp only [List.setIfInBounds_toArray, List.set_cons_zero, List.set_cons_succ])
    refine wpAnyH_take (i := 4) (v := ?_) rfl (by kernel_rfl) (by kernel_rfl) (by kernel_rfl) (fun _ _ _ h => h) (Or.inl ⟨by kernel_rfl, ?_⟩) (by assumption) ?_; rotate_left; (focus ((intro w hSw; (try dsimp only at hSw); go_simp) <;> with_reducible rfl)); (try dsimp [Act.put]); (try simp only [List.setIfInBounds_toArray, List.set_cons_zero, List.set_cons_succ])
    refine wpAnyH_take (i := 5) (v := ?_) rfl (by kernel_rfl) (by kernel_rfl) (by kernel_rfl) (fun _ _ _ h => h) (Or.inl ⟨by kernel_rfl, ?_⟩) (by assumption) ?_; rotate_left; (focus ((intro w hSw; (try dsimp only at hSw); go_simp) <;> with_reducible rfl)); (try dsimp [Act.put]); (try simp only [List.setIfInBounds_toArray, List.set_cons_zero, List.set_cons_succ])
    refine wpAnyH_take (i := 6) (v := ?_) rfl (by kernel_rfl) (by kernel_rfl) (by kernel_rfl) (fun _ _ _ h => h) (Or.inl ⟨by kernel_rfl, ?_⟩) (by assumption) ?_; rotate_left; (focus ((intro w hSw; (try dsimp only at hSw); go_simp) <;> with_reducible rfl)); (try dsimp [Act.put]); (try simp only [List.setIfInBounds_toArray, List.set_cons_zero, List.set_cons_succ])
    refine wpAnyH_take (i := 9) (v := ?_) rfl (by kernel_rfl) (by kernel_rfl) (by kernel_rfl) (fun _ _ _ h => h) (Or.inl ⟨by kernel_rfl, ?_⟩) (by assumption) ?_; rotate_left; (focus ((intro w hSw; (try dsimp only at hSw); go_simp) <;> with_reducible rfl)); (try dsimp [Act.put]); (try simp only [List.setIfInBounds_toArray, List.set_cons_zero, List.set_cons_succ])
    refine wpAnyH_ready (rs := [7, 14]) (by kernel_rfl) (by simp) ?_
    refine AllReadyH.cons rfl (fun KK hKK => ?_) ?_
    · go_simp
      refine hKK.out _ _ ?_ (fun hHeld => ?_)
      focus (first | exact ⟨below_set2 hbW (by omega) _ _, hK.out _ (below_set2 hbW (by omega) _ _)⟩ | exact ⟨by assumption, hK.out _ (by assumption)⟩ | exact ⟨(by repeat (first | assumption | exact Below.refl _ _ | apply below_alloc_self | apply below_drew_self)), hK.out _ (by repeat (first | assumption | exact Below.refl _ _ | apply below_alloc_self | apply below_drew_self))⟩)
      clear hKK KK
      (try dsimp [Act.put]); (try simp only [List.setIfInBounds_toArray, List.set_cons_zero, List.set_cons_succ])
      refine wpAnyH_take (i := 8) (v := ?_) rfl (by kernel_rfl) (by kernel_rfl) (by kernel_rfl) (fun _ _ _ h => h) (Or.inl ⟨by kernel_rfl, ?_⟩) (by assumption) ?_; rotate_left; (focus ((intro w hSw; (try dsimp only at hSw); go_simp) <;> with_reducible rfl)); (try dsimp [Act.put]); (try simp only [List.setIfInBounds_toArray, List.set_cons_zero, List.set_cons_succ])
      refine wpAnyH_ready (rs := [10, 14]) (by kernel_rfl) (by simp) ?_
      refine AllReadyH.cons (o := { dst := some 88, op := .call { callee := .value (.func 25), args := #[.tmp 86, .tmp 87], argTypes := #[35, 35] }, type := _, pos := _, after := _, guard := _ }) rfl (fun KK hKK => ?_) ?_
      · refine step_call2 (hCJ.out _ _ (by first | exact hv1.out | exact hv2.out | exact hv3.out) (by repeat (first | assumption | exact Below.refl _ _ | apply below_alloc_self | apply below_drew_self))) (fun _ => by kernel_rfl) rfl (.tmp 86) (.tmp 87) rfl (by first | rfl | simp [Act.eval]) (by first | rfl | simp [Act.eval]) ?_
        rintro e wj ⟨xj, rfl, hxj, hbj⟩
        refine ⟨_, rfl, ?_⟩
        have hbW : Below wr.heap.size wr wj := (show Below wr.heap.size wr _ from (by repeat (first | assumption | exact Below.refl _ _ | apply below_alloc_self | apply below_drew_self))).trans (hbj.mono (show Below wr.heap.size wr _ from (by repeat (first | assumption | exact Below.refl _ _ | apply below_alloc_self | apply below_drew_self))).size)
        have hzj := hbj.size
        have hzW := hbW.size
        simp at hzj
        obtain ⟨ja, jn, jc, rfl⟩ := own_lit' hxj
        first | (have hB9 : Bx wj wr.heap.size [.int .i64 0, .slice none 0 0] := (((Bx.new wr #[.int .i64 0, .slice none 0 0] 35).alloc (.cells #[.int .i64 (-(j : Int))] 2)).drew).below hbj; have q0 := hB9.cell 0 rfl; have q1 := hB9.cell 1 rfl; have qf0 := hB9.frozen 0; have qf1 := hB9.frozen 1) | (have hB9 : Bx wj (wr.heap.size + 1) [.int .i64 0, .slice none 0 0] := ((by have := Bx.new (wr.alloc (.cells #[.int .i64 (-(j : Int))] 2)) #[.int .i64 0, .slice none 0 0] 35; simpa using this : Bx ((wr.alloc (.cells #[.int .i64 (-(j : Int))] 2)).alloc (.cells #[.int .i64 0, .slice none 0 0] 35)) (wr.heap.size + 1) [.int .i64 0, .slice none 0 0]).drew).below hbj; have q0 := hB9.cell 0 rfl; have q1 := hB9.cell 1 rfl; have qf0 := hB9.frozen 0; have qf1 := hB9.frozen 1) | skip
        refine hKK.out _ _ ?_ (fun hHeld => ?_)
        focus (first | exact ⟨below_set2 hbW (by omega) _ _, hK.out _ (below_set2 hbW (by omega) _ _)⟩ | exact ⟨by assumption, hK.out _ (by assumption)⟩ | exact ⟨(by repeat (first | assumption | exact Below.refl _ _ | apply below_alloc_self | apply below_drew_self)), hK.out _ (by repeat (first | assumption | exact Below.refl _ _ | apply below_alloc_self | apply below_drew_self))⟩)
        clear hKK KK
        (try dsimp [Act.put]); (try simp only [List.setIfInBounds_toArray, List.set_cons_zero, List.set_cons_succ])
        refine wpAnyH_take (i := 11) (v := ?_) rfl (by kernel_rfl) (by kernel_rfl) (by kernel_rfl) (fun _ _ _ h => h) (Or.inl ⟨by kernel_rfl, ?_⟩) (by assumption) ?_; rotate_left; (focus ((intro w hSw; (try dsimp only at hSw); go_simp) <;> with_reducible rfl)); (try dsimp [Act.put]); (try simp only [List.setIfInBounds_toArray, List.set_cons_zero, List.set_cons_succ])
        refine wpAnyH_take (i := 12) (v := ?_) rfl (by kernel_rfl) (by kernel_rfl) (by kernel_rfl) (fun _ _ _ h => h) (Or.inl ⟨by kernel_rfl, ?_⟩) (by assumption) ?_; rotate_left; (focus ((intro w hSw; (try dsimp only at hSw); go_simp) <;> with_reducible rfl)); (try dsimp [Act.put]); (try simp only [List.setIfInBounds_toArray, List.set_cons_zero, List.set_cons_succ])
        refine wpAnyH_take (i := 13) (v := ?_) rfl (by kernel_rfl) (by kernel_rfl) (by kernel_rfl) (fun _ _ _ h => h) (Or.inl ⟨by kernel_rfl, ?_⟩) (by assumption) ?_; rotate_left; (focus ((intro w hSw; (try dsimp only at hSw); go_simp) <;> with_reducible rfl)); (try dsimp [Act.put]); (try simp only [List.setIfInBounds_toArray, List.set_cons_zero, List.set_cons_succ])
        refine wpAnyH_ready (rs := [14]) (by kernel_rfl) (by simp) ?_
        refine AllReadyH.cons rfl (fun KK hKK => ?_) AllReadyH.nil
        go_simp
        refine hKK.out _ _ ?_ (fun hHeld => ?_)
        focus (first | exact ⟨below_set2 hbW (by omega) _ _, hK.out _ (below_set2 hbW (by omega) _ _)⟩ | exact ⟨by assumption, hK.out _ (by assumption)⟩ | exact ⟨(by repeat (first | assumption | exact Below.refl _ _ | apply below_alloc_self | apply below_drew_self)), hK.out _ (by repeat (first | assumption | exact Below.refl _ _ | apply below_alloc_self | apply below_drew_self))⟩)
        clear hKK KK
        (try dsimp [Act.put]); (try simp only [List.setIfInBounds_toArray, List.set_cons_zero, List.set_cons_succ])
        refine wpAnyH_ready (rs := [15]) (by kernel_rfl) (by simp) ?_
        refine AllReadyH.cons rfl (fun KK hKK => ?_) AllReadyH.nil
        go_simp
        refine hKK.out _ _ ?_ (fun hHeld => ?_)
        focus (first | exact ⟨below_set2 hbW (by omega) _ _, hK.out _ (below_set2 hbW (by omega) _ _)⟩ | exact ⟨by assumption, hK.out _ (by assumption)⟩ | exact ⟨(by repeat (first | assumption | exact Below.refl _ _ | apply below_alloc_self | apply below_drew_self)), hK.out _ (by repeat (first | assumption | exact Below.refl _ _ | apply below_alloc_self | apply below_drew_self))⟩)
        clear hKK KK
        (try dsimp [Act.put]); (try simp only [List.setIfInBounds_toArray, List.set_cons_zero, List.set_cons_succ])
        refine wpAnyH_take (i := 16) (v := ?_) rfl (by kernel_rfl) (by kernel_rfl) (by kernel_rfl) (fun _ _ _ h => h) (Or.inl ⟨by kernel_rfl, ?_⟩) (by assumption) ?_; rotate_left; (focus ((intro w hSw; (try dsimp only at hSw); go_simp) <;> with_reducible rfl)); (try dsimp [Act.put]); (try simp only [List.setIfInBounds_toArray, List.set_cons_zero, List.set_cons_succ])
        refine wpAnyH_done (by kernel_rfl) ?_ _
        refine NoPanic.normal ?_
        clear hHeld
        first
        | (have hXF : Bx ((wj.setCell ⟨wr.heap.size, 0, none⟩ (.int .i64 n)).setCell ⟨wr.heap.size, 1, none⟩ (.slice ja jn jc)) (wr.heap.size) [.int .i64 n, .slice ja jn jc] := (hB9.set 0 (.int .i64 n)).set 1 (.slice ja jn jc)
           have hne : blk (.slice ja jn jc) ≠ some (wr.heap.size) := fun e => by have := (hxj.blk_lt e).1; simp at this; omega
           have hrF := ((hxj.other (a := ⟨wr.heap.size, 0, none⟩) hne (.int .i64 n)).other (a := ⟨wr.heap.size, 1, none⟩) hne (.slice ja jn jc)).reads
           have hbX := below_set2 (g := wr.heap.size) hbW (by omega) (.int .i64 n) (.slice ja jn jc)
           clear q0 q1 qf0 qf1 hB9 hne hxj
           generalize ((wj.setCell ⟨wr.heap.size, 0, none⟩ (.int .i64 n)).setCell ⟨wr.heap.size, 1, none⟩ (.slice ja jn jc)) = wX at *)
        | (have hXF : Bx ((wj.setCell ⟨wr.heap.size + 1, 0, none⟩ (.int .i64 n)).setCell ⟨wr.heap.size + 1, 1, none⟩ (.slice ja jn jc)) (wr.heap.size + 1) [.int .i64 n, .slice ja jn jc] := (hB9.set 0 (.int .i64 n)).set 1 (.slice ja jn jc)
           have hne : blk (.slice ja jn jc) ≠ some (wr.heap.size + 1) := fun e => by have := (hxj.blk_lt e).1; simp at this; omega
           have hrF := ((hxj.other (a := ⟨wr.heap.size + 1, 0, none⟩) hne (.int .i64 n)).other (a := ⟨wr.heap.size + 1, 1, none⟩) hne (.slice ja jn jc)).reads
           have hbX := below_set2 (g := wr.heap.size + 1) hbW (by omega) (.int .i64 n) (.slice ja jn jc)
           clear q0 q1 qf0 qf1 hB9 hne hxj
           generalize ((wj.setCell ⟨wr.heap.size + 1, 0, none⟩ (.int .i64 n)).setCell ⟨wr.heap.size + 1, 1, none⟩ (.slice ja jn jc)) = wX at *)
        | (try rw [alloc_set2]
           have hXF := Bx.new wj #[.int .i64 n, .slice ja jn jc] 35
           have hrF := (own_alloc hxj (.cells #[.int .i64 n, .slice ja jn jc] 35)).reads
           have hbX := below_alloc_self hbW (.cells #[.int .i64 n, .slice ja jn jc] 35)
           clear hxj
           generalize wj.alloc (.cells #[.int .i64 n, .slice ja jn jc] 35) = wX at *)
        clear hbj hbW hK hCJ hv1 hv2 hv3
        have x0 := hXF.cell 0 rfl
        have x1 := hXF.cell 1 rfl
        replace hbX := hid hbX
        go_wp2_with fail
        refine (hCN.out _ _ hrF).mono ?_
        rintro e wn ⟨f, rfl, hf, hbn⟩
        have hbY := hid (hbX.out.trans (hbn.mono hbX.out.size))
        obtain ⟨fa, fn, fc, rfl⟩ := hf.lit
        obtain ⟨P, hP⟩ : ∃ P, (nfW n (-(j : Int) :: lettersF p.1)).1 = P := ⟨_, rfl⟩
        rw [hP]
        have hP0 : ¬ P < 0 := by have := hPn.out; rw [hP] at this; omega
        have hbZ := hid (below_alloc_self hbY.out (.cells #[.int .i64 n, .int .i64 P, .slice fa fn fc] 27))
        replace hP := hid hP
        clear x0 x1 hXF hbn hf hrF hbX
        go_wp2_with fail
        go_roundw
        case rel => exact ⟨k + 1, by omega, by go_num, hbr.out.trans (hbZ.out.mono hbr.out.size)⟩
        case measure => simp [intOf] <;> omega
      refine AllReadyH.cons rfl (fun KK hKK => ?_) AllReadyH.nil
      go_simp
      refine hKK.out _ _ ?_ (fun hHeld => ?_)
      focus (first | exact ⟨below_set2 hbW (by omega) _ _, hK.out _ (below_set2 hbW (by omega) _ _)⟩ | exact ⟨by assumption, hK.out _ (by assumption)⟩ | exact ⟨(by repeat (first | assumption | exact Below.refl _ _ | apply below_alloc_self | apply below_drew_self)), hK.out _ (by repeat (first | assumption | exact Below.refl _ _ | apply below_alloc_self | apply below_drew_self))⟩)
      clear hKK KK
      (try dsimp [Act.put]); (try simp only [List.setIfInBounds_toArray, List.set_cons_zero, List.set_cons_succ])
      refine wpAnyH_ready (rs := [10]) (by kernel_rfl) (by simp) ?_
      refine AllReadyH.cons (o := { dst := some 88, op := .call { callee := .value (.func 25), args := #[.tmp 86, .tmp 87], argTypes := #[35, 35] }, type := _, pos := _, after := _, guard := _ }) rfl (fun KK hKK => ?_) AllReadyH.nil
      refine step_call2 (hCJ.out _ _ (by first | exact hv1.out | exact hv2.out | exact hv3.out) (by repeat (first | assumption | exact Below.refl _ _ | apply below_alloc_self | apply below_drew_self))) (fun _ => by kernel_rfl) rfl (.tmp 86) (.tmp 87) rfl (by first | rfl | simp [Act.eval]) (by first | rfl | simp [Act.eval]) ?_
      rintro e wj ⟨xj, rfl, hxj, hbj⟩
      refine ⟨_, rfl, ?_⟩
      have hbW : Below wr.heap.size wr wj := (show Below wr.heap.size wr _ from (by repeat (first | assumption | exact Below.refl _ _ | apply below_alloc_self | apply below_drew_self))).trans (hbj.mono (show Below wr.heap.size wr _ from (by repeat (first | assumption | exact Below.refl _ _ | apply below_alloc_self | apply below_drew_self))).size)
      have hzj := hbj.size
      have hzW := hbW.size
      simp at hzj
      obtain ⟨ja, jn, jc, rfl⟩ := own_lit' hxj
      first | (have hB9 : Bx wj wr.heap.size [.int .i64 0, .slice none 0 0] := (((Bx.new wr #[.int .i64 0, .slice none 0 0] 35).alloc (.cells #[.int .i64 (-(j : Int))] 2)).drew).below hbj; have q0 := hB9.cell 0 rfl; have q1 := hB9.cell 1 rfl; have qf0 := hB9.frozen 0; have qf1 := hB9.frozen 1) | (have hB9 : Bx wj (wr.heap.size + 1) [.int .i64 0, .slice none 0 0] := ((by have := Bx.new (wr.alloc (.cells #[.int .i64 (-(j : Int))] 2)) #[.int .i64 0, .slice none 0 0] 35; simpa using this : Bx ((wr.alloc (.cells #[.int .i64 (-(j : Int))] 2)).alloc (.cells #[.int .i64 0, .slice none 0 0] 35)) (wr.heap.size + 1) [.int .i64 0, .slice none 0 0]).drew).below hbj; have q0 := hB9.cell 0 rfl; have q1 := hB9.cell 1 rfl; have qf0 := hB9.frozen 0; have qf1 := hB9.frozen 1) | skip
      refine hKK.out _ _ ?_ (fun hHeld => ?_)
      focus (first | exact ⟨below_set2 hbW (by omega) _ _, hK.out _ (below_set2 hbW (by omega) _ _)⟩ | exact ⟨by assumption, hK.out _ (by assumption)⟩ | exact ⟨(by repeat (first | assumption | exact Below.refl _ _ | apply below_alloc_self | apply below_drew_self)), hK.out _ (by repeat (first | assumption | exact Below.refl _ _ | apply below_alloc_self | apply below_drew_self))⟩)
      clear hKK KK
      (try dsimp [Act.put]); (try simp only [List.setIfInBounds_toArray, List.set_cons_zero, List.set_cons_succ])
      refine wpAnyH_take (i := 11) (v := ?_) rfl (by kernel_rfl) (by kernel_rfl) (by kernel_rfl) (fun _ _ _ h => h) (Or.inl ⟨by kernel_rfl, ?_⟩) (by assumption) ?_; rotate_left; (focus ((intro w hSw; (try dsimp only at hSw); go_simp) <;> with_reducible rfl)); (try dsimp [Act.put]); (try simp only [List.setIfInBounds_toArray, List.set_cons_zero, List.set_cons_succ])
      refine wpAnyH_take (i := 12) (v := ?_) rfl (by kernel_rfl) (by kernel_rfl) (by kernel_rfl) (fun _ _ _ h => h) (Or.inl ⟨by kernel_rfl, ?_⟩) (by assumption) ?_; rotate_left; (focus ((intro w hSw; (try dsimp only at hSw); go_simp) <;> with_reducible rfl)); (try dsimp [Act.put]); (try simp only [List.setIfInBounds_toArray, List.set_cons_zero, List.set_cons_succ])
      refine wpAnyH_take (i := 13) (v := ?_) rfl (by kernel_rfl) (by kernel_rfl) (by kernel_rfl) (fun _ _ _ h => h) (Or.inl ⟨by kernel_rfl, ?_⟩) (by assumption) ?_; rotate_left; (focus ((intro w hSw; (try dsimp only at hSw); go_simp) <;> with_reducible rfl)); (try dsimp [Act.put]); (try simp only [List.setIfInBounds_toArray, List.set_cons_zero, List.set_cons_succ])
      refine wpAnyH_ready (rs := [15]) (by kernel_rfl) (by simp) ?_
      refine AllReadyH.cons rfl (fun KK hKK => ?_) AllReadyH.nil
      go_simp
      refine hKK.out _ _ ?_ (fun hHeld => ?_)
      focus (first | exact ⟨below_set2 hbW (by omega) _ _, hK.out _ (below_set2 hbW (by omega) _ _)⟩ | exact ⟨by assumption, hK.out _ (by assumption)⟩ | exact ⟨(by repeat (first | assumption | exact Below.refl _ _ | apply below_alloc_self | apply below_drew_self)), hK.out _ (by repeat (first | assumption | exact Below.refl _ _ | apply below_alloc_self | apply below_drew_self))⟩)
      clear hKK KK
      (try dsimp [Act.put]); (try simp only [List.setIfInBounds_toArray, List.set_cons_zero, List.set_cons_succ])
      refine wpAnyH_take (i := 16) (v := ?_) rfl (by kernel_rfl) (by kernel_rfl) (by kernel_rfl) (fun _ _ _ h => h) (Or.inl ⟨by kernel_rfl, ?_⟩) (by assumption) ?_; rotate_left; (focus ((intro w hSw; (try dsimp only at hSw); go_simp) <;> with_reducible rfl)); (try dsimp [Act.put]); (try simp only [List.setIfInBounds_toArray, List.set_cons_zero, List.set_cons_succ])
      refine wpAnyH_done (by kernel_rfl) ?_ _
      refine NoPanic.normal ?_
      clear hHeld
      first
      | (have hXF : Bx ((wj.setCell ⟨wr.heap.size, 0, none⟩ (.int .i64 n)).setCell ⟨wr.heap.size, 1, none⟩ (.slice ja jn jc)) (wr.heap.size) [.int .i64 n, .slice ja jn jc] := (hB9.set 0 (.int .i64 n)).set 1 (.slice ja jn jc)
         have hne : blk (.slice ja jn jc) ≠ some (wr.heap.size) := fun e => by have := (hxj.blk_lt e).1; simp at this; omega
         have hrF := ((hxj.other (a := ⟨wr.heap.size, 0, none⟩) hne (.int .i64 n)).other (a := ⟨wr.heap.size, 1, none⟩) hne (.slice ja jn jc)).reads
         have hbX := below_set2 (g := wr.heap.size) hbW (by omega) (.int .i64 n) (.slice ja jn jc)
         clear q0 q1 qf0 qf1 hB9 hne hxj
         generalize ((wj.setCell ⟨wr.heap.size, 0, none⟩ (.int .i64 n)).setCell ⟨wr.heap.size, 1, none⟩ (.slice ja jn jc)) = wX at *)
      | (have hXF : Bx ((wj.setCell ⟨wr.heap.size + 1, 0, none⟩ (.int .i64 n)).setCell ⟨wr.heap.size + 1, 1, none⟩ (.slice ja jn jc)) (wr.heap.size + 1) [.int .i64 n, .slice ja jn jc] := (hB9.set 0 (.int .i64 n)).set 1 (.slice ja jn jc)
         have hne : blk (.slice ja jn jc) ≠ some (wr.heap.size + 1) := fun e => by have := (hxj.blk_lt e).1; simp at this; omega
         have hrF := ((hxj.other (a := ⟨wr.heap.size + 1, 0, none⟩) hne (.int .i64 n)).other (a := ⟨wr.heap.size + 1, 1, none⟩) hne (.slice ja jn jc)).reads
         have hbX := below_set2 (g := wr.heap.size + 1) hbW (by omega) (.int .i64 n) (.slice ja jn jc)
         clear q0 q1 qf0 qf1 hB9 hne hxj
         generalize ((wj.setCell ⟨wr.heap.size + 1, 0, none⟩ (.int .i64 n)).setCell ⟨wr.heap.size + 1, 1, none⟩ (.slice ja jn jc)) = wX at *)
      | (try rw [alloc_set2]
         have hXF := Bx.new wj #[.int .i64 n, .slice ja jn jc] 35
         have hrF := (own_alloc hxj (.cells #[.int .i64 n, .slice ja jn jc] 35)).reads
         have hbX := below_alloc_self hbW (.cells #[.int .i64 n, .slice ja jn jc] 35)
         clear hxj
         generalize wj.alloc (.cells #[.int .i64 n, .slice ja jn jc] 35) = wX at *)
      clear hbj hbW hK hCJ hv1 hv2 hv3
      have x0 := hXF.cell 0 rfl
      have x1 := hXF.cell 1 rfl
      replace hbX := hid hbX
      go_wp2_with fail
      refine (hCN.out _ _ hrF).mono ?_
      rintro e wn ⟨f, rfl, hf, hbn⟩
      have hbY := hid (hbX.out.trans (hbn.mono hbX.out.size))
      obtain ⟨fa, fn, fc, rfl⟩ := hf.lit
      obtain ⟨P, hP⟩ : ∃ P, (nfW n (-(j : Int) :: lettersF p.1)).1 = P := ⟨_, rfl⟩
      rw [hP]
      have hP0 : ¬ P < 0 := by have := hPn.out; rw [hP] at this; omega
      have hbZ := hid (below_alloc_self hbY.out (.cells #[.int .i64 n, .int .i64 P, .slice fa fn fc] 27))
      replace hP := hid hP
      clear x0 x1 hXF hbn hf hrF hbX
      go_wp2_with fail
      go_roundw
      case rel => exact ⟨k + 1, by omega, by go_num, hbr.out.trans (hbZ.out.mono hbr.out.size)⟩
      case measure => simp [intOf] <;> omega
    refine AllReadyH.cons rfl (fun KK hKK => ?_) AllReadyH.nil
    go_simp
    refine hKK.out _ _ ?_ (fun hHeld => ?_)
    focus (first | exact ⟨below_set2 hbW (by omega) _ _, hK.out _ (below_set2 hbW (by omega) _ _)⟩ | exact ⟨by assumption, hK.out _ (by assumption)⟩ | exact ⟨(by repeat (first | assumption | exact Below.refl _ _ | apply below_alloc_self | apply below_drew_self)), hK.out _ (by repeat (first | assumption | exact Below.refl _ _ | apply below_alloc_self | apply below_drew_self))⟩)
    clear hKK KK
    (try dsimp [Act.put]); (try simp only [List.setIfInBounds_toArray, List.set_cons_zero, List.set_cons_succ])
    refine wpAnyH_ready (rs := [7]) (by kernel_rfl) (by simp) ?_
    refine AllReadyH.cons rfl (fun KK hKK => ?_) AllReadyH.nil
    go_simp
    refine hKK.out _ _ ?_ (fun hHeld => ?_)
    focus (first | exact ⟨below_set2 hbW (by omega) _ _, hK.out _ (below_set2 hbW (by omega) _ _)⟩ | exact ⟨by assumption, hK.out _ (by assumption)⟩ | exact ⟨(by repeat (first | assumption | exact Below.refl _ _ | apply below_alloc_self | apply below_drew_self)), hK.out _ (by repeat (first | assumption | exact Below.refl _ _ | apply below_alloc_self | apply below_drew_self))⟩)
    clear hKK KK
    (try dsimp [Act.put]); (try simp only [List.setIfInBounds_toArray, List.set_cons_zero, List.set_cons_succ])
    refine wpAnyH_take (i := 8) (v := ?_) rfl (by kernel_rfl) (by kernel_rfl) (by kernel_rfl) (fun _ _ _ h => h) (Or.inl ⟨by kernel_rfl, ?_⟩) (by assumption) ?_; rotate_left; (focus ((intro w hSw; (try dsimp only at hSw); go_simp) <;> with_reducible rfl)); (try dsimp [Act.put]); (try simp only [List.setIfInBounds_toArray, List.set_cons_zero, List.set_cons_succ])
    refine wpAnyH_ready (rs := [10]) (by kernel_rfl) (by simp) ?_
    refine AllReadyH.cons (o := { dst := some 88, op := .call { callee := .value (.func 25), args := #[.tmp 86, .tmp 87], argTypes := #[35, 35] }, type := _, pos := _, after := _, guard := _ }) rfl (fun KK hKK => ?_) AllReadyH.nil
    refine step_call2 (hCJ.out _ _ (by first | exact hv1.out | exact hv2.out | exact hv3.out) (by repeat (first | assumption | exact Below.refl _ _ | apply below_alloc_self | apply below_drew_self))) (fun _ => by kernel_rfl) rfl (.tmp 86) (.tmp 87) rfl (by first | rfl | simp [Act.eval]) (by first | rfl | simp [Act.eval]) ?_
    rintro e wj ⟨xj, rfl, hxj, hbj⟩
    refine ⟨_, rfl, ?_⟩
    have hbW : Below wr.heap.size wr wj := (show Below wr.heap.size wr _ from (by repeat (first | assumption | exact Below.refl _ _ | apply below_alloc_self | apply below_drew_self))).trans (hbj.mono (show Below wr.heap.size wr _ from (by repeat (first | assumption | exact Below.refl _ _ | apply below_alloc_self | apply below_drew_self))).size)
    have hzj := hbj.size
    have hzW := hbW.size
    simp at hzj
    obtain ⟨ja, jn, jc, rfl⟩ := own_lit' hxj
    first | (have hB9 : Bx wj wr.heap.size [.int .i64 0, .slice none 0 0] := (((Bx.new wr #[.int .i64 0, .slice none 0 0] 35).alloc (.cells #[.int .i64 (-(j : Int))] 2)).drew).below hbj; have q0 := hB9.cell 0 rfl; have q1 := hB9.cell 1 rfl; have qf0 := hB9.frozen 0; have qf1 := hB9.frozen 1) | (have hB9 : Bx wj (wr.heap.size + 1) [.int .i64 0, .slice none 0 0] := ((by have := Bx.new (wr.alloc (.cells #[.int .i64 (-(j : Int))] 2)) #[.int .i64 0, .slice none 0 0] 35; simpa using this : Bx ((wr.alloc (.cells #[.int .i64 (-(j : Int))] 2)).alloc (.cells #[.int .i64 0, .slice none 0 0] 35)) (wr.heap.size + 1) [.int .i64 0, .slice none 0 0]).drew).below hbj; have q0 := hB9.cell 0 rfl; have q1 := hB9.cell 1 rfl; have qf0 := hB9.frozen 0; have qf1 := hB9.frozen 1) | skip
    refine hKK.out _ _ ?_ (fun hHeld => ?_)
    focus (first | exact ⟨below_set2 hbW (by omega) _ _, hK.out _ (below_set2 hbW (by omega) _ _)⟩ | exact ⟨by assumption, hK.out _ (by assumption)⟩ | exact ⟨(by repeat (first | assumption | exact Below.refl _ _ | apply below_alloc_self | apply below_drew_self)), hK.out _ (by repeat (first | assumption | exact Below.refl _ _ | apply below_alloc_self | apply below_drew_self))⟩)
    clear hKK KK
    (try dsimp [Act.put]); (try simp only [List.setIfInBounds_toArray, List.set_cons_zero, List.set_cons_succ])
    refine wpAnyH_take (i := 11) (v := ?_) rfl (by kernel_rfl) (by kernel_rfl) (by kernel_rfl) (fun _ _ _ h => h) (Or.inl ⟨by kernel_rfl, ?_⟩) (by assumption) ?_; rotate_left; (focus ((intro w hSw; (try dsimp only at hSw); go_simp) <;> with_reducible rfl)); (try dsimp [Act.put]); (try simp only [List.setIfInBounds_toArray, List.set_cons_zero, List.set_cons_succ])
    refine wpAnyH_take (i := 12) (v := ?_) rfl (by kernel_rfl) (by kernel_rfl) (by kernel_rfl) (fun _ _ _ h => h) (Or.inl ⟨by kernel_rfl, ?_⟩) (by assumption) ?_; rotate_left; (focus ((intro w hSw; (try dsimp only at hSw); go_simp) <;> with_reducible rfl)); (try dsimp [Act.put]); (try simp only [List.setIfInBounds_toArray, List.set_cons_zero, List.set_cons_succ])
    refine wpAnyH_take (i := 13) (v := ?_) rfl (by kernel_rfl) (by kernel_rfl) (by kernel_rfl) (fun _ _ _ h => h) (Or.inl ⟨by kernel_rfl, ?_⟩) (by assumption) ?_; rotate_left; (focus ((intro w hSw; (try dsimp only at hSw); go_simp) <;> with_reducible rfl)); (try dsimp [Act.put]); (try simp only [List.setIfInBounds_toArray, List.set_cons_zero, List.set_cons_succ])
    refine wpAnyH_ready (rs := [15]) (by kernel_rfl) (by simp) ?_
    refine AllReadyH.cons rfl (fun KK hKK => ?_) AllReadyH.nil
    go_simp
    refine hKK.out _ _ ?_ (fun hHeld => ?_)
    focus (first | exact ⟨below_set2 hbW (by omega) _ _, hK.out _ (below_set2 hbW (by omega) _ _)⟩ | exact ⟨by assumption, hK.out _ (by assumption)⟩ | exact ⟨(by repeat (first | assumption | exact Below.refl _ _ | apply below_alloc_self | apply below_drew_self)), hK.out _ (by repeat (first | assumption | exact Below.refl _ _ | apply below_alloc_self | apply below_drew_self))⟩)
    clear hKK KK
    (try dsimp [Act.put]); (try simp only [List.setIfInBounds_toArray, List.set_cons_zero, List.set_cons_succ])
    refine wpAnyH_take (i := 16) (v := ?_) rfl (by kernel_rfl) (by kernel_rfl) (by kernel_rfl) (fun _ _ _ h => h) (Or.inl ⟨by kernel_rfl, ?_⟩) (by assumption) ?_; rotate_left; (focus ((intro w hSw; (try dsimp only at hSw); go_simp) <;> with_reducible rfl)); (try dsimp [Act.put]); (try simp only [List.setIfInBounds_toArray, List.set_cons_zero, List.set_cons_succ])
    refine wpAnyH_done (by kernel_rfl) ?_ _
    refine NoPanic.normal ?_
    clear hHeld
    first
    | (have hXF : Bx ((wj.setCell ⟨wr.heap.size, 0, none⟩ (.int .i64 n)).setCell ⟨wr.heap.size, 1, none⟩ (.slice ja jn jc)) (wr.heap.size) [.int .i64 n, .slice ja jn jc] := (hB9.set 0 (.int .i64 n)).set 1 (.slice ja jn jc)
       have hne : blk (.slice ja jn jc) ≠ some (wr.heap.size) := fun e => by have := (hxj.blk_lt e).1; simp at this; omega
       have hrF := ((hxj.other (a := ⟨wr.heap.size, 0, none⟩) hne (.int .i64 n)).other (a := ⟨wr.heap.size, 1, none⟩) hne (.slice ja jn jc)).reads
       have hbX := below_set2 (g := wr.heap.size) hbW (by omega) (.int .i64 n) (.slice ja jn jc)
       clear q0 q1 qf0 qf1 hB9 hne hxj
       generalize ((wj.setCell ⟨wr.heap.size, 0, none⟩ (.int .i64 n)).setCell ⟨wr.heap.size, 1, none⟩ (.slice ja jn jc)) = wX at *)
    | (have hXF : Bx ((wj.setCell ⟨wr.heap.size + 1, 0, none⟩ (.int .i64 n)).setCell ⟨wr.heap.size + 1, 1, none⟩ (.slice ja jn jc)) (wr.heap.size + 1) [.int .i64 n, .slice ja jn jc] := (hB9.set 0 (.int .i64 n)).set 1 (.slice ja jn jc)
       have hne : blk (.slice ja jn jc) ≠ some (wr.heap.size + 1) := fun e => by have := (hxj.blk_lt e).1; simp at this; omega
       have hrF := ((hxj.other (a := ⟨wr.heap.size + 1, 0, none⟩) hne (.int .i64 n)).other (a := ⟨wr.heap.size + 1, 1, none⟩) hne (.slice ja jn jc)).reads
       have hbX := below_set2 (g := wr.heap.size + 1) hbW (by omega) (.int .i64 n) (.slice ja jn jc)
       clear q0 q1 qf0 qf1 hB9 hne hxj
       generalize ((wj.setCell ⟨wr.heap.size + 1, 0, none⟩ (.int .i64 n)).setCell ⟨wr.heap.size + 1, 1, none⟩ (.slice ja jn jc)) = wX at *)
    | (try rw [alloc_set2]
       have hXF := Bx.new wj #[.int .i64 n, .slice ja jn jc] 35
       have hrF := (own_alloc hxj (.cells #[.int .i64 n, .slice ja jn jc] 35)).reads
       have hbX := below_alloc_self hbW (.cells #[.int .i64 n, .slice ja jn jc] 35)
       clear hxj
       generalize wj.alloc (.cells #[.int .i64 n, .slice ja jn jc] 35) = wX at *)
    clear hbj hbW hK hCJ hv1 hv2 hv3
    have x0 := hXF.cell 0 rfl
    have x1 := hXF.cell 1 rfl
    replace hbX := hid hbX
    go_wp2_with fail
    refine (hCN.out _ _ hrF).mono ?_
    rintro e wn ⟨f, rfl, hf, hbn⟩
    have hbY := hid (hbX.out.trans (hbn.mono hbX.out.size))
    obtain ⟨fa, fn, fc, rfl⟩ := hf.lit
    obtain ⟨P, hP⟩ : ∃ P, (nfW n (-(j : Int) :: lettersF p.1)).1 = P := ⟨_, rfl⟩
    rw [hP]
    have hP0 : ¬ P < 0 := by have := hPn.out; rw [hP] at this; omega
    have hbZ := hid (below_alloc_self hbY.out (.cells #[.int .i64 n, .int .i64 P, .slice fa fn fc] 27))
    replace hP := hid hP
    clear x0 x1 hXF hbn hf hrF hbX
    go_wp2_with fail
    go_roundw
    case rel => exact ⟨k + 1, by omega, by go_num, hbr.out.trans (hbZ.out.mono hbr.out.size)⟩
    case measure => simp [intOf] <;> omega
  case neg =>
    have hB2 := hB.below hbr
    have hx2 := hx.below hbr
    have hu2 := hu.below hbr
    have hb2 := hid (hb.trans (hbr.mono hb.size))
    have c0 := hB2.cell 0 rfl
    have c1 := hB2.cell 1 rfl
    clear hbr hB hx hu hb hst
    go_wp2_with fail
    rcases Classical.em (p = one n) with h1 | h1
    case inl =>
      have hm0 : m = 0 := by rw [← hm.out, (let_nil p).2 h1]; rfl
      subst hm0
      have hE : nfW n (lettersF p.1) = (0, []) := by rw [nfw_letters p, h1]; exact nf_p_one n
      refine (nfb8 p hn8 hE (k := 0) rfl _ _ hx2).mono ?_
      rintro e w5 ⟨fa, fc, rfl, hf, hs5⟩
      have hu5 := hid ((hu2.below hs5).alloc (.cells #[.int .i64 n, .int .i64 0, .slice fa 0 fc] 27))
      have hB5 := (hB2.below hs5).alloc (.cells #[.int .i64 n, .int .i64 0, .slice fa 0 fc] 27)
      have hN5 := Bx.new w5 #[.int .i64 n, .int .i64 0, .slice fa 0 fc] 27
      have hb5 := hid (hb2.out.trans (hs5.mono hb2.out.size))
      have hb6 := hid (hb5.out.alloc hb5.out.size (.cells #[.int .i64 n, .int .i64 0, .slice fa 0 fc] 27))
      have d0 := hB5.cell 1 rfl
      have e1 := hN5.cell 1 rfl
      have e2 := hN5.cell 2 rfl
      clear c0 c1 hf hs5 hE h1
      by_cases hn1 : (1 : Int) < n
      case neg =>
        go_wp2_with fail
        go_ret
        exact ⟨rfl, hb6.out⟩
      case pos =>
        go_wp2_with fail
        generalize w5.alloc (.cells #[.int .i64 n, .int .i64 0, .slice fa 0 fc] 27) = w6 at *
        refine (half8 hn8 w6).mono ?_
        rintro e w7 ⟨y, rfl, hy, hs7⟩
        have hb7 := hid (hb6.out.trans (hs7.mono hb6.out.size))
        have hu7 := hid (hu5.out.below hs7)
        have hN7 := hN5.below hs7
        clear e1 e2 d0 hB5 hN5 hs7
        have e1 := hN7.cell 1 rfl
        have e2 := hN7.cell 2 rfl
        go_wp2_with fail
        refine (d8same _ _ _ _ _ hu7.out hy).mono ?_
        rintro e w8 ⟨rfl, hs8⟩
        have hb8 := hid (hb7.out.trans (hs8.mono hb7.out.size))
        have hN8 := hN7.below hs8
        clear e1 e2 hN7 hs8 hy
        have e1 := hN8.cell 1 rfl
        have e2 := hN8.cell 2 rfl
        generalize decide (p.1 = (top n).1) = bb
        go_wp2_with fail
        go_ret
        exact ⟨rfl, hb8.out⟩
    case inr =>
    have hn2 := top_two p h1
    have hn1 : (1 : Int) < n := by omega
    have hm0 : ((m : Int) == 0) = false := by
      rw [beq_eq_false_iff_ne]
      intro e
      exact h1 ((let_nil p).1 (List.eq_nil_of_length_eq_zero (by rw [hm.out]; omega)))
    rcases Classical.em (p = top n) with h2 | h2
    case inl =>
      have hE : nfW n (lettersF p.1) = (1, []) := by rw [nfw_letters p, h2]; exact nf_p_top hn2
      refine (nfb8 p hn8 hE (k := 0) rfl _ _ hx2).mono ?_
      rintro e w5 ⟨fa, fc, rfl, hf, hs5⟩
      have hu5 := hid ((hu2.below hs5).alloc (.cells #[.int .i64 n, .int .i64 1, .slice fa 0 fc] 27))
      have hB5 := (hB2.below hs5).alloc (.cells #[.int .i64 n, .int .i64 1, .slice fa 0 fc] 27)
      have hN5 := Bx.new w5 #[.int .i64 n, .int .i64 1, .slice fa 0 fc] 27
      have hb5 := hid (hb2.out.trans (hs5.mono hb2.out.size))
      have hb6 := hid (hb5.out.alloc hb5.out.size (.cells #[.int .i64 n, .int .i64 1, .slice fa 0 fc] 27))
      have d0 := hB5.cell 1 rfl
      clear c0 c1 hf hs5 hE h1
      replace h2 := hid h2
      go_wp2_with fail
      generalize w5.alloc (.cells #[.int .i64 n, .int .i64 1, .slice fa 0 fc] 27) = w6 at *
      refine (half8 hn8 w6).mono ?_
      rintro e w7 ⟨y, rfl, hy, hs7⟩
      have hb7 := hid (hb6.out.trans (hs7.mono hb6.out.size))
      have hu7 := hid (hu5.out.below hs7)
      have hN7 := hN5.below hs7
      clear d0 hB5 hN5 hs7
      go_wp2_with fail
      refine (d8same _ _ _ _ _ hu7.out hy).mono ?_
      rintro e w8 ⟨rfl, hs8⟩
      rw [decide_eq_true (by rw [h2.out])]
      have hb8 := hid (hb7.out.trans (hs8.mono hb7.out.size))
      have hN8 := hN7.below hs8
      clear hN7 hs8 hy
      have e1 := hN8.cell 1 rfl
      have e2 := hN8.cell 2 rfl
      go_wp2_with fail
      go_ret
      exact ⟨rfl, hb8.out⟩
    case inr =>
      have hE : nfW n (lettersF p.1) = (0, [p]) := by rw [nfw_letters p]; exact nf_p_mid p h1 h2
      refine (nfb8 p hn8 hE (k := 1) rfl _ _ hx2).mono ?_
      rintro e w5 ⟨fa, fc, rfl, hf, hs5⟩
      have hf5 := hid (hf.below ((Below.refl _ _).alloc (Nat.le_refl _) (.cells #[.int .i64 n, .int .i64 0, .slice fa 1 fc] 27)))
      have hu5 := hid ((hu2.below hs5).alloc (.cells #[.int .i64 n, .int .i64 0, .slice fa 1 fc] 27))
      have hB5 := (hB2.below hs5).alloc (.cells #[.int .i64 n, .int .i64 0, .slice fa 1 fc] 27)
      have hN5 := Bx.new w5 #[.int .i64 n, .int .i64 0, .slice fa 1 fc] 27
      have hb5 := hid (hb2.out.trans (hs5.mono hb2.out.size))
      have hb6 := hid (hb5.out.alloc hb5.out.size (.cells #[.int .i64 n, .int .i64 0, .slice fa 1 fc] 27))
      have d0 := hB5.cell 1 rfl
      clear c0 c1 hf hs5 hE h1
      replace h2 := hid h2
      go_wp2_with fail
      generalize w5.alloc (.cells #[.int .i64 n, .int .i64 0, .slice fa 1 fc] 27) = w6 at *
      refine (half8 hn8 w6).mono ?_
      rintro e w7 ⟨y, rfl, hy, hs7⟩
      have hb7 := hid (hb6.out.trans (hs7.mono hb6.out.size))
      have hu7 := hid (hu5.out.below hs7)
      have hf7 := hid (hf5.out.below hs7)
      have hN7 := hN5.below hs7
      clear d0 hB5 hN5 hs7
      go_wp2_with fail
      refine (d8same _ _ _ _ _ hu7.out hy).mono ?_
      rintro e w8 ⟨rfl, hs8⟩
      rw [decide_eq_false (fun e => h2.out (Subtype.ext e))]
      have hb8 := hid (hb7.out.trans (hs8.mono hb7.out.size))
      have hN8 := hN7.below hs8
      have hu8 := hid (hu7.out.below hs8)
      obtain ⟨vs, hv, hvr⟩ := hf7.out.below hs8
      clear hN7 hs8 hy hf5 hf7
      have e1 := hN8.cell 1 rfl
      have e2 := hN8.cell 2 rfl
      have hi := hv.idx (P := Try.prog) 22 sliceII sizeSI .i64 0 (by omega) (by rw [hvr.len]; simp)
      simp only [Int.toNat_zero] at hi
      have hc := hv.cell 0 _ (vat_of (by rw [hvr.len]; simp))
      have hrow := hid (show Reads w8 (vat vs 0) (ints p.1) from hvr.row 0 (by simp))
      clear hv hvr
      go_wp2_with fail
      refine (d8yes _ _ _ _ hrow.out hu8.out).mono ?_
      rintro e w9 ⟨rfl, hs9⟩
      have hb9 := hid (hb8.out.trans (hs9.mono hb8.out.size))
      have hu9 := hid (hu8.out.below hs9)
      clear e1 e2 hi hc hrow hs9 hN8
      go_wp2_with fail
      refine (flip8 p hn8 _ _ hu9.out).mono ?_
      rintro e wa' ⟨y1, rfl, hy1, hsa⟩
      have hba := hid (hb9.out.trans (hsa.mono hb9.out.size))
      have hua := hid (hu9.out.below hsa)
      clear hsa
      go_wp2_with fail
      refine (flip8 _ hn8 _ _ hy1).mono ?_
      rintro e wb' ⟨y2, rfl, hy2, hsb⟩
      rw [(gar n).tau_tau] at hy2
      have hbb := hid (hba.out.trans (hsb.mono hba.out.size))
      have hub := hid (hua.out.below hsb)
      clear hsb hy1
      go_wp2_with fail
      refine (d8yes _ _ _ _ hy2 hub.out).mono ?_
      rintro e wc' ⟨rfl, hsc⟩
      have hbc := hid (hbb.out.trans (hsc.mono hbb.out.size))
      clear hsc hy2
      go_wp2_with fail
      go_ret
      exact ⟨rfl, hbc.out⟩

end Go.Proofs.Ytmeccemnmkobbaa
