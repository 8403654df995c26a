/- Walk of the law on meets and joins of permutations. -/
import Derived.Test.YtgibgcjpehcemaaPds
import Derived.Test.YtgibgcjpehcemaaHelp
import Derived.Test.YtgibgcjpehcemaaIdn
import Derived.Test.YtgibgcjpehcemaaPl
import Derived.Test.YtgibgcjpehcemaaCpd
import Derived.Test.YtgibgcjpehcemaaLw1
namespace Go.Proofs.Ytgibgcjpehcemaa
open Go.RowKit
open Pm

set_option maxHeartbeats 1000000 in
theorem a2same (v u : Value) (l m : List Int) (w : World) (h : Reads w v (ints l)) (h' : Reads w u (ints m)) :
    Calls Try.prog 27 #[v, u] w fun e w' => e = .returned (.bool (decide (l = m))) ∧ Below w.heap.size w w' := by
  have hs := h.small
  have hs' := h'.small
  simp only [length_ints] at hs hs'
  have hlen := h.len (P := Try.prog) 22 3 ⟨_, sliceI⟩
  have hlen' := h'.len (P := Try.prog) 22 3 ⟨_, sliceI⟩
  simp only [length_ints] at hlen hlen'
  by_cases hne : l.length = m.length
  · have hb : ((l.length : Int) != (m.length : Int)) = false := by simp [hne]
    go_enter Try.func27, Try.ntmps27
    go_wp2_with fail
    go_loopw [5] (fun i wr => ∃ k : Nat, k ≤ l.length ∧ i = .int .i64 k ∧ (∀ j, j < k → nth l j = nth m j) ∧ Below w.heap.size w wr) (fun i _ => l.length - (intOf i).toNat)
    case atStart =>
      exact ⟨0, by omega, rfl, by omega, Below.refl _ _⟩
    case round =>
      obtain ⟨k, hk, rfl, heq, hb⟩ := hrel
      by_cases hlt : k < l.length
      · have hltm : k < m.length := by omega
        have hi := h.idx 22 sliceI sizeI .i64 k (by omega) (by simpa using hlt)
        have hi2 := h'.idx 22 sliceI sizeI .i64 k (by omega) (by simpa using hltm)
        simp only [Int.toNat_natCast] at hi hi2
        have hc := (h.below hb).int hlt
        have hc2 := (h'.below hb).int hltm
        clear hne
        go_wp2_with fail
        go_quiet (fail)
        go_wp2_with fail
        · go_ret
          have hx := ne_nth ‹_›
          exact ⟨by simp [hx], below_drewN hb _⟩
        · go_roundw
          case rel => exact ⟨k + 1, by omega, by go_num, forall_snoc heq (eq_nth ‹_›), below_drewN hb _⟩
          case measure => simp [intOf]; omega
      · obtain rfl : k = l.length := by omega
        have hx : l = m := ext_nth hne heq
        clear hne
        go_wp2_with fail
        go_ret
        exact ⟨by simp [hx], hb⟩
  · have hx : l ≠ m := fun e => hne (by rw [e])
    have hb : ((l.length : Int) != (m.length : Int)) = true := by rw [bne_iff_ne]; omega
    clear hne
    go_enter Try.func27, Try.ntmps27
    go_wp2_with fail
    go_ret
    exact ⟨by simp [hx], Below.refl _ _⟩


set_option maxHeartbeats 8000000 in
theorem draw2_src (g : Nat) (cv : Value) (cs : List Int) (k n : Nat) (w : World) (h : Src w g cv cs k) (hk : k ≤ 90000) (hn : n ≤ 12) (hg : g < w.heap.size) :
    Calls Try.prog 59 #[.pointer (some ⟨g, 0, none⟩), .int .i64 (n : Int)] w fun e w' => ∃ u l, e = .returned u ∧ Own w' w.heap.size 2 u (ints l) ∧ l.length = n ∧ IsPerm l ∧ Src w' g cv cs (k + 60) ∧ GrG w w' g := by
  go_enter Try.func59, Try.ntmps59
  go_wp2_with fail
  refine (idn_spec (n : Int) w (by omega) (by omega)).mono ?_
  rintro e w1 ⟨u, rfl, hu, hs1⟩
  rw [Int.toNat_natCast] at hu
  have hS1 := h.next hs1
  have hG1 := GrG.ofBelow g hs1
  have hp1 : IsPerm (idn n) := by rw [idn_val]; exact (one n).2.2
  have hl1 : (idn n).length = n := by simp
  generalize idn n = l0 at *
  have hu' := hid hu
  have hS' := hid hS1
  have hG' := hid hG1
  have hp' := hid hp1
  clear h hu hs1 hS1 hG1 hp1
  go_wp2_with fail
  go_loopw [6, 7, 8] (fun i _ _ wr => ∃ (x : Int) (l : List Int), -1 ≤ x ∧ x ≤ n - 1 ∧ i = .int .i64 x ∧ l.length = n ∧ IsPerm l ∧ Own wr w.heap.size 2 u (ints l) ∧ Src wr g cv cs (k + 4 * (n - 1 - x).toNat) ∧ GrG w wr g) (fun i _ _ _ => (intOf i + 1).toNat)
  case atStart => exact ⟨n - 1, l0, by omega, by omega, by go_num, hl1, hp'.out, hu'.out, hS'.out.more (by omega), hG'.out⟩
  case round =>
    clear hu' hS' hG' hp' hl1
    obtain ⟨x, l, hx0, hx1, rfl, hll, hp, hu, hS, hG⟩ := hrel
    by_cases hlt : 0 < x
    · obtain ⟨i, rfl⟩ := Int.eq_ofNat_of_zero_le (show 0 ≤ x by omega)
      replace hu := hid hu
      replace hG := hid hG
      replace hp := hid hp
      go_wp2_with fail
      refine (one_src g cv cs _ 3 wr hS (by omega) (by omega) (by omega)).mono ?_
      rintro e w0 ⟨bb, rfl, hS0, hG0⟩
      have hu0 := hid (hG0.own hu.out hg)
      have hG00 := hid (hG.out.trans hG0)
      clear hS hu hG hG0
      cases bb
      case true =>
        replace hS0 := hid hS0
        go_wp2_with fail
        go_roundw
        case rel => exact ⟨(i : Int) - 1, l, by omega, by omega, by go_num, hll, hp.out, hu0.out, hS0.out.more (by omega), hG00.out⟩
        case measure => simp [intOf] <;> omega
      case false =>
      go_wp2_with fail
      refine (pick_src g cv cs _ ((i : Int) + 1) w0 hS0 (by omega) (by omega) (by omega)).mono ?_
      rintro e w2 ⟨y, rfl, hy0, hy1, hS2, hG2⟩
      obtain ⟨c, rfl⟩ := Int.eq_ofNat_of_zero_le hy0
      have hci : c ≤ i := by omega
      have hin : i < n := by omega
      have hb := hG2.own hu0.out hg
      have hG3 := hG00.out.trans hG2
      clear hS0 hG2 hu0 hG00
      have hia := hb.reads.idx (P := Try.prog) 22 sliceI sizeI .i64 (i : Int) (by omega) (by simp; omega)
      have hib := hb.reads.idx (P := Try.prog) 22 sliceI sizeI .i64 (c : Int) (by omega) (by simp; omega)
      simp only [Int.toNat_natCast] at hia hib
      have ca := hb.reads.cell i _ (ints_at (by omega))
      have cb := hb.reads.cell c _ (ints_at (by omega))
      have fa := hb.frozen (i := i) (by simp; omega)
      have aa := (hb.adr_blk (i := i) (by simp; omega))
      have ab := (hb.adr_blk (i := c) (by simp; omega))
      have hb1 := hb.set (i := i) (by simp; omega) (.int .i64 (nth l c))
      have fb := hb1.frozen (i := c) (by simp; omega)
      have hst := hb1.set (i := c) (by simp; omega) (.int .i64 (nth l i))
      rw [ints_set] at hb1
      have cc := hb1.reads.cell c _ (ints_at (by simp; omega))
      rw [ints_set, ints_set] at hst
      have hgr : w2.grownBy ((w2.setCell (adr u i) (.int .i64 (nth l c))).setCell (adr u c) (.int .i64 (nth l i))) (blk u) := grown_set (grown_set (grown_of_below (Below.refl _ _) _) aa.1 _) ab.1 _
      have hSF := hid (hS2.grown hgr fun q hq => by have := (hb.blk_lt hq).1; omega)
      have hGF := hid (hG3.grown hgr fun q hq => (hb.blk_lt hq).1)
      have hOF := hid hst
      have hPF := hid (exch_perm hp.out (i := i) (k := c) (by omega) (by omega))
      clear hS2 hG3 hst hb1 hgr hb
      go_wp2_with fail
      go_roundw
      case rel => exact ⟨(i : Int) - 1, exAt l i c, by omega, by omega, by go_num, by simpa using hll, hPF.out, hOF.out, hSF.out.more (by omega), hGF.out⟩
      case measure => simp [intOf] <;> omega
    · go_wp2_with fail
      go_ret
      exact ⟨_, rfl, l, hu, hll, hp, hS.more (by omega), hG⟩

set_option maxHeartbeats 8000000 in
theorem size_src (g : Nat) (cv : Value) (cs : List Int) (k : Nat) (w : World) (h : Src w g cv cs k) (hk : k ≤ 90000) (hg : g < w.heap.size) :
    Calls Try.prog 58 #[.pointer (some ⟨g, 0, none⟩)] w fun e w' => ∃ n : Nat, e = .returned (.int .i64 n) ∧ n ≤ 12 ∧ Src w' g cv cs (k + 6) ∧ GrG w w' g := by
  go_enter Try.func58, Try.ntmps58
  go_wp2_with fail
  refine (one_src g cv cs k 12 w h (by omega) (by omega) (by omega)).mono ?_
  rintro e w1 ⟨bb, rfl, hS1, hG1⟩
  have hz1 := hG1.size
  cases bb
  case false =>
    replace hG1 := hid hG1
    go_wp2_with fail
    refine (pick_src g cv cs _ 6 w1 hS1 (by omega) (by omega) (by omega)).mono ?_
    rintro e w2 ⟨x, rfl, hx0, hx1, hS2, hG2⟩
    obtain ⟨c, rfl⟩ := Int.eq_ofNat_of_zero_le hx0
    have hG3 := hid (hG1.out.trans hG2)
    replace hS2 := hid hS2
    clear hG2 hS1
    go_wp2_with fail
    go_ret
    exact ⟨2 + c, by go_num, by omega, hS2.out.more (by omega), hG3.out⟩
  case true =>
    have hA := own_arr w1 2 #[.int .i64 0, .int .i64 1, .int .i64 12, .int .i64 12] 4 rfl (by omega) (Nat.le_refl _)
    have hbA := (Below.refl w1.heap.size w1).alloc (Nat.le_refl _) (.cells #[.int .i64 0, .int .i64 1, .int .i64 12, .int .i64 12] 2)
    have hS2 := hS1.next hbA
    have hG2 := hG1.trans (GrG.ofBelow g hbA)
    clear hS1 hG1 hbA h
    go_wp2_with fail
    generalize w1.alloc (.cells #[.int .i64 0, .int .i64 1, .int .i64 12, .int .i64 12] 2) = w2 at *
    have hA' : Reads w2 (.slice (some ⟨w1.heap.size, 0, none⟩) 4 4) (ints [0, 1, 12, 12]) := hA.reads
    clear hA
    replace hG2 := hid hG2
    refine (among_src g cv _ cs _ _ w2 hS2 hA' (by simp [blk]; omega) (by simp) (by simp) (by omega)).mono ?_
    rintro e w3 ⟨x, rfl, hx, hS3, hG3⟩
    obtain ⟨n, rfl, hn⟩ : ∃ n : Nat, x = n ∧ n ≤ 12 := by
      simp only [List.mem_cons, List.not_mem_nil, or_false] at hx
      exact ⟨x.toNat, by omega, by omega⟩
    have hG4 := hid (hG2.out.trans hG3)
    replace hS3 := hid hS3
    clear hG3 hS2 hA' hx
    go_wp2_with fail
    go_ret
    exact ⟨n, rfl, hn, hS3.out.more (by omega), hG4.out⟩

set_option maxHeartbeats 8000000 in
theorem a2perms (cv : Value) (cs : List Int) (w : World) (h : Reads w cv (bytes cs)) (hr : ∀ i, i < cs.length → 0 ≤ nth cs i ∧ nth cs i ≤ 255) (hs : cs.length ≤ 1048576) :
    Calls Try.prog 24 #[cv] w fun e w' => ∃ (n : Nat) (u v : Value) (A B : Pm n), e = .returned (.tuple #[u, v]) ∧ n ≤ 12 ∧ Own w' w.heap.size 2 u (ints A.1) ∧ Own w' w.heap.size 2 v (ints B.1) ∧ Below w.heap.size w w' := by
  go_enter Try.func24, Try.ntmps24
  go_wp2_with fail
  refine (from_src cv cs w h hr hs).mono ?_
  rintro e w1 ⟨rfl, hS1, hb1⟩
  have hgl : w.heap.size < w1.heap.size := by obtain ⟨⟨a, s, h1, h2, h3, hX⟩, -⟩ := hS1; exact hX.lt
  go_wp2_with fail
  refine (size_src w.heap.size cv cs 0 w1 hS1 (by omega) hgl).mono ?_
  rintro e w2 ⟨n, rfl, hn, hS2, hG2⟩
  have hz2 := hG2.size
  go_wp2_with fail
  refine (draw2_src w.heap.size cv cs _ n w2 hS2 (by omega) hn (by omega)).mono ?_
  rintro e w3 ⟨u, l, rfl, hu, hl, hp, hS3, hG3⟩
  have hz3 := hG3.size
  replace hu := hid hu
  replace hp := hid hp
  go_wp2_with fail
  refine (draw2_src w.heap.size cv cs _ n w3 hS3 (by omega) hn (by omega)).mono ?_
  rintro e w4 ⟨v, m, rfl, hv, hm, hq, hS4, hG4⟩
  have hu4 := hid (hG4.own hu.out (by omega))
  have hb4 := hid (((hb1.trans (hG2.below (by omega))).trans (hG3.below (by omega))).trans (hG4.below (by omega)))
  replace hv := hid hv
  replace hq := hid hq
  clear hS1 hS2 hS3 hS4 hG2 hG3 hG4 hb1 hu h hr
  go_wp2_with fail
  go_ret2
  exact ⟨n, _, _, ⟨l, hl, hp.out⟩, ⟨m, hm, hq.out⟩, rfl, hn, hu4.out.mono (by omega), hv.out.mono (by omega), hb4.out⟩


end Go.Proofs.Ytgibgcjpehcemaa

namespace Go.Proofs.Ytgibgcjpehcemaa
open Go.RowKit
open Pm
set_option linter.unusedSimpArgs false

theorem Reads.alloc {w : World} {v : Value} {xs : List Value} (h : Reads w v xs) (o : Obj) : Reads (w.alloc o) v xs := h.below ((Below.refl _ _).alloc (Nat.le_refl _) o)
theorem reads_nilY (w : World) : Reads w (.slice none 0 0) (bytes []) := (Own.nilv w 0 5).reads
set_option maxHeartbeats 1000000 in
theorem a2long (v u : Value) (cs ds : List Int) (w : World) (h : Reads w v (bytes cs)) (h' : Reads w u (bytes ds)) :
    Calls Try.prog 23 #[v, u] w fun e w' => e = .returned (.bool (decide (3000 < cs.length) || decide (3000 < ds.length))) ∧ Below w.heap.size w w' := by
  have hlen := h.len (P := Try.prog) 29 3 ⟨_, sliceY⟩
  have hlen' := h'.len (P := Try.prog) 29 3 ⟨_, sliceY⟩
  rw [length_bytes] at hlen hlen'
  by_cases h1 : 3000 < cs.length
  · have h2 : (3000 : Int) < cs.length := by omega
    go_enter Try.func23, Try.ntmps23
    go_wp2_with fail
    go_ret
    exact ⟨by simp [h1], Below.refl _ _⟩
  · have h2 : ¬ (3000 : Int) < cs.length := by omega
    by_cases h3 : 3000 < ds.length
    · have h4 : (3000 : Int) < ds.length := by omega
      go_enter Try.func23, Try.ntmps23
      go_wp2_with fail
      go_ret
      exact ⟨by simp [h3], Below.refl _ _⟩
    · have h4 : ¬ (3000 : Int) < ds.length := by omega
      go_enter Try.func23, Try.ntmps23
      go_wp2_with fail
      go_ret
      exact ⟨by simp [h1, h3], Below.refl _ _⟩

/-- no crossing pair of l is one that keeps its order in m, up to row j and there up to place i -/
def LeTo (l m : List Int) (j i : Nat) : Prop := ∀ p q, p < q → (q < j ∨ q = j ∧ p < i) → nth l q < nth l p → nth m q < nth m p
set_option maxHeartbeats 4000000 in
theorem a2below (v u : Value) (l m : List Int) (w : World) (h : Reads w v (ints l)) (h' : Reads w u (ints m)) (hl : l.length = m.length) (hn : l.length ≤ 1000) :
    Calls Try.prog 26 #[v, u] w fun e w' => ∃ b : Bool, e = .returned (.bool b) ∧ (b = true ↔ LeTo l m l.length 0) ∧ Below w.heap.size w w' := by
  have hlen := h.len (P := Try.prog) 22 3 ⟨_, sliceI⟩
  have hlen' := h'.len (P := Try.prog) 22 3 ⟨_, sliceI⟩
  rw [length_ints] at hlen hlen'
  rw [← hl] at hlen'
  replace hl := hid hl
  go_enter Try.func26, Try.ntmps26
  go_wp2_with fail
  go_loopw [5, 6] (fun c _ wr => ∃ j : Nat, j ≤ l.length ∧ c = .int .i64 j ∧ LeTo l m j 0 ∧ Below w.heap.size w wr) (fun c _ _ => l.length - (intOf c).toNat)
  case atStart => exact ⟨0, by omega, rfl, fun p q h1 h2 => by omega, Below.refl _ _⟩
  case round =>
    obtain ⟨j, hj, rfl, hL, hb⟩ := hrel
    replace hL := hid hL
    by_cases hlt : j < l.length
    · replace hb := hid hb
      go_wp2_with fail
      rename World => wF
      go_loopw [6] (fun c wr => ∃ i : Nat, i ≤ j ∧ c = .int .i64 i ∧ LeTo l m j i ∧ Below w.heap.size w wr) (fun c _ => j - (intOf c).toNat)
      case atStart => exact ⟨0, by omega, rfl, hL.out, hb.out⟩
      case round =>
        clear hL hb
        obtain ⟨i, hi, rfl, hL, hb⟩ := hrel
        replace hL := hid hL
        by_cases hlt2 : i < j
        · have ia := h.idx (P := Try.prog) 22 sliceI sizeI .i64 (i : Int) (by omega) (by simp; omega)
          have ja := h.idx (P := Try.prog) 22 sliceI sizeI .i64 (j : Int) (by omega) (by simp; omega)
          have ib := h'.idx (P := Try.prog) 22 sliceI sizeI .i64 (i : Int) (by omega) (by have := hl.out; simp; omega)
          have jb := h'.idx (P := Try.prog) 22 sliceI sizeI .i64 (j : Int) (by omega) (by have := hl.out; simp; omega)
          simp only [Int.toNat_natCast] at ia ja ib jb
          have c1 := (h.below hb).cell i _ (ints_at (by omega))
          have c2 := (h.below hb).cell j _ (ints_at (by omega))
          have c3 := (h'.below hb).cell i _ (ints_at (by have := hl.out; omega))
          have c4 := (h'.below hb).cell j _ (ints_at (by have := hl.out; omega))
          replace hb := hid hb
          by_cases p1 : nth l j < nth l i
          · by_cases p2 : nth m i ≤ nth m j
            · have hno := hid (fun (hh : LeTo l m l.length 0) => (show False from by have := hh i j hlt2 (.inl hlt) p1; omega))
              go_wp2_with fail
              go_quiet (fail)
              have hbq := hid (below_drewN hb.out nq)
              go_wp2_with fail
              go_ret
              exact ⟨_, rfl, by simp; exact hno.out, hbq.out⟩
            · have hnx := hid (show LeTo l m j (i + 1) from fun p q h1 h2 h3 => by
                by_cases e : q = j ∧ p = i
                · rw [e.1, e.2]; omega
                · exact hL.out p q h1 (by omega) h3)
              have p2' : ¬ (nth m i ≤ nth m j) := p2
              go_wp2_with fail
              go_quiet (fail)
              have hbq := hid (below_drewN hb.out nq)
              go_wp2_with fail
              go_roundw
              case rel => exact ⟨i + 1, by omega, by go_num, hnx.out, hbq.out⟩
              case measure => simp [intOf] <;> omega
          · have hnx := hid (show LeTo l m j (i + 1) from fun p q h1 h2 h3 => by
              by_cases e : q = j ∧ p = i
              · rw [e.1, e.2] at h3; exact absurd h3 p1
              · exact hL.out p q h1 (by omega) h3)
            have hpd : decide (nth l j < nth l i) = false := decide_eq_false p1
            replace p1 := hid p1
            go_wp2_with fail
            go_quiet (fail)
            have hbq := hid (below_drewN hb.out nq)
            go_wp2_with fail
            go_roundw
            case rel => exact ⟨i + 1, by omega, by go_num, hnx.out, hbq.out⟩
            case measure => simp [intOf] <;> omega
        · obtain rfl : i = j := by omega
          have hnx := hid (show LeTo l m (i + 1) 0 from fun p q h1 h2 h3 => hL.out p q h1 (by omega) h3)
          replace hb := hid hb
          go_wp2_with fail
          go_roundw
          case rel => exact ⟨i + 1, by omega, by go_num, hnx.out, hb.out⟩
          case measure => simp [intOf] <;> omega
    · obtain rfl : j = l.length := by omega
      replace hb := hid hb
      go_wp2_with fail
      go_ret
      exact ⟨_, rfl, by simp; exact hL.out, hb.out⟩

theorem leTo_iff {n : Nat} (A B : Pm n) : LeTo A.1 B.1 A.1.length 0 ↔ le A B := by
  rw [A.len]
  constructor
  · intro hh i j hij hj hc
    have := hh i j hij (.inl hj) (by rw [A.nth_at hj, A.nth_at (by omega)]; omega)
    rw [B.nth_at hj, B.nth_at (by omega)] at this; omega
  · intro hh p q hpq hq hc
    have hq' : q < n := by omega
    rw [A.nth_at hq', A.nth_at (by omega)] at hc
    have := hh p q hpq hq' (by omega)
    rw [B.nth_at hq', B.nth_at (by omega)]; omega
theorem okP_pm {n : Nat} (A : Pm n) (hn : n ≤ 12) : okP A.1 = true := by
  unfold okP
  have h1 := A.len
  have h2 := A.perm
  simp only [Bool.and_eq_true, decide_eq_true_eq]
  exact ⟨by omega, h2⟩
theorem below_pm {n : Nat} (hn : n ≤ 12) (A B : Pm n) (v u : Value) (w : World) (h : Reads w v (ints A.1)) (h' : Reads w u (ints B.1)) :
    Calls Try.prog 26 #[v, u] w fun e w' => ∃ b : Bool, e = .returned (.bool b) ∧ (b = true ↔ le A B) ∧ Below w.heap.size w w' := by
  refine (a2below v u _ _ w h h' (by rw [A.len, B.len]) (by rw [A.len]; omega)).mono ?_
  rintro e w' ⟨b, rfl, hb, hs⟩
  exact ⟨b, rfl, hb.trans (leTo_iff A B), hs⟩
theorem below_yes {n : Nat} (hn : n ≤ 12) {A B : Pm n} (hl : le A B) (v u : Value) (w : World) (h : Reads w v (ints A.1)) (h' : Reads w u (ints B.1)) :
    Calls Try.prog 26 #[v, u] w fun e w' => e = .returned (.bool true) ∧ Below w.heap.size w w' := by
  refine (below_pm hn A B v u w h h').mono ?_
  rintro e w' ⟨b, rfl, hb, hs⟩
  rw [hb.2 hl]; exact ⟨rfl, hs⟩
theorem valid_yes {n : Nat} (hn : n ≤ 12) (A : Pm n) (v : Value) (w : World) (h : Reads w v (ints A.1)) :
    Calls Try.prog 25 #[v] w fun e w' => e = .returned (.bool true) ∧ Below w.heap.size w w' := by
  have := VPS v A.1 w h
  rwa [okP_pm A hn] at this
theorem same_yes {n : Nat} (_hn : n ≤ 12) {A B : Pm n} (he : A = B) (v u : Value) (w : World) (h : Reads w v (ints A.1)) (h' : Reads w u (ints B.1)) :
    Calls Try.prog 27 #[v, u] w fun e w' => e = .returned (.bool true) ∧ Below w.heap.size w w' := by
  subst he
  refine (a2same v u _ _ w h h').mono ?_
  rintro e w' ⟨rfl, hs⟩
  exact ⟨by simp, hs⟩
theorem meet_ok {n : Nat} (hn : n ≤ 12) (A B : Pm n) (v u : Value) (w : World) (h : Reads w v (ints A.1)) (h' : Reads w u (ints B.1)) :
    Calls Try.prog 22 #[v, u] w fun e w' => ∃ x, e = .returned (.tuple #[x, .bool true]) ∧ Reads w' x (ints (meet A B).1) ∧ Below w.heap.size w w' := by
  have e1 : (okP A.1 && okP B.1 && decide (A.1.length = B.1.length)) = true := by rw [okP_pm A hn, okP_pm B hn, A.len, B.len]; simp
  refine (MeetI v u _ _ w h h').mono ?_
  rintro e w' ⟨x, rfl, ho, hs⟩
  rw [e1] at ho ⊢
  rw [meet_val]
  exact ⟨x, rfl, ho.reads, hs⟩
theorem join_ok {n : Nat} (hn : n ≤ 12) (A B : Pm n) (v u : Value) (w : World) (h : Reads w v (ints A.1)) (h' : Reads w u (ints B.1)) :
    Calls Try.prog 20 #[v, u] w fun e w' => ∃ x, e = .returned (.tuple #[x, .bool true]) ∧ Reads w' x (ints (join A B).1) ∧ Below w.heap.size w w' := by
  have e1 : (okP A.1 && okP B.1 && decide (A.1.length = B.1.length)) = true := by rw [okP_pm A hn, okP_pm B hn, A.len, B.len]; simp
  refine (JoinI v u _ _ w h h').mono ?_
  rintro e w' ⟨x, rfl, ho, hs⟩
  rw [e1] at ho ⊢
  rw [join_val]
  exact ⟨x, rfl, ho.reads, hs⟩


set_option maxHeartbeats 8000000 in
theorem walk_FnLattice (a0 : Value) (cs : List Int) (W : World) (h0 : Reads W a0 (bytes cs)) (hr : ∀ i, i < cs.length → 0 ≤ nth cs i ∧ nth cs i ≤ 255) :
    Calls Try.prog 7 #[a0] W fun e w' => e = .returned (.bool true) ∧ Below W.heap.size W w' := by
  have hb : Below W.heap.size W W := Below.refl _ _
  go_enter Try.func7, Try.ntmps7
  go_wp2_with fail
  refine (a2long a0 _ cs [] W h0 (reads_nilY W)).mono ?_
  rintro e w1 ⟨rfl, hs⟩
  replace h0 := h0.below hs
  replace hb := hb.trans (hs.mono hb.size)
  clear hs
  by_cases hl : 3000 < cs.length
  · have e : (decide (3000 < cs.length) || decide (3000 < ([] : List Int).length)) = true := by simp [hl]
    rw [e]
    go_wp2_with fail
    go_ret
    exact ⟨rfl, hb⟩
  have e : (decide (3000 < cs.length) || decide (3000 < ([] : List Int).length)) = false := by simp [hl]
  rw [e]
  go_wp2_with fail
  refine (a2perms a0 cs _ h0 hr (by omega)).mono ?_
  rintro e w2 ⟨n, u, v, A, B, rfl, hn, hu, hv, hs⟩
  replace h0 := h0.below hs
  replace hb := hb.trans (hs.mono hb.size)
  clear hs
  replace hu := hu.reads
  replace hv := hv.reads
  clear hr e
  go_wp2_with fail
  refine (meet_ok hn A B _ _ _ hu hv).mono ?_
  rintro e w3 ⟨m, rfl, hm, hs⟩
  replace h0 := h0.below hs
  replace hu := hu.below hs
  replace hv := hv.below hs
  replace hb := hb.trans (hs.mono hb.size)
  clear hs
  go_wp2_with fail
  refine (join_ok hn A B _ _ _ hu hv).mono ?_
  rintro e w4 ⟨j, rfl, hj, hs⟩
  replace h0 := h0.below hs
  replace hu := hu.below hs
  replace hv := hv.below hs
  replace hm := hm.below hs
  replace hb := hb.trans (hs.mono hb.size)
  clear hs
  go_wp2_with fail
  refine (valid_yes hn (meet A B) _ _ hm).mono ?_
  rintro e w5 ⟨rfl, hs⟩
  replace h0 := h0.below hs
  replace hu := hu.below hs
  replace hv := hv.below hs
  replace hm := hm.below hs
  replace hj := hj.below hs
  replace hb := hb.trans (hs.mono hb.size)
  clear hs
  go_wp2_with fail
  refine (valid_yes hn (join A B) _ _ hj).mono ?_
  rintro e w6 ⟨rfl, hs⟩
  replace h0 := h0.below hs
  replace hu := hu.below hs
  replace hv := hv.below hs
  replace hm := hm.below hs
  replace hj := hj.below hs
  replace hb := hb.trans (hs.mono hb.size)
  clear hs
  go_wp2_with fail
  refine (below_yes hn (meet_le_left A B) _ _ _ hm hu).mono ?_
  rintro e w7 ⟨rfl, hs⟩
  replace h0 := h0.below hs
  replace hu := hu.below hs
  replace hv := hv.below hs
  replace hm := hm.below hs
  replace hj := hj.below hs
  replace hb := hb.trans (hs.mono hb.size)
  clear hs
  go_wp2_with fail
  refine (below_yes hn (meet_le_right A B) _ _ _ hm hv).mono ?_
  rintro e w8 ⟨rfl, hs⟩
  replace h0 := h0.below hs
  replace hu := hu.below hs
  replace hv := hv.below hs
  replace hm := hm.below hs
  replace hj := hj.below hs
  replace hb := hb.trans (hs.mono hb.size)
  clear hs
  go_wp2_with fail
  refine (below_yes hn (le_join_left A B) _ _ _ hu hj).mono ?_
  rintro e w9 ⟨rfl, hs⟩
  replace h0 := h0.below hs
  replace hu := hu.below hs
  replace hv := hv.below hs
  replace hm := hm.below hs
  replace hj := hj.below hs
  replace hb := hb.trans (hs.mono hb.size)
  clear hs
  go_wp2_with fail
  refine (below_yes hn (le_join_right A B) _ _ _ hv hj).mono ?_
  rintro e w10 ⟨rfl, hs⟩
  replace h0 := h0.below hs
  replace hu := hu.below hs
  replace hv := hv.below hs
  replace hm := hm.below hs
  replace hj := hj.below hs
  replace hb := hb.trans (hs.mono hb.size)
  clear hs
  go_wp2_with fail
  refine (meet_ok hn A (join A B) _ _ _ hu hj).mono ?_
  rintro e w11 ⟨x, rfl, hx, hs⟩
  replace h0 := h0.below hs
  replace hu := hu.below hs
  replace hv := hv.below hs
  replace hm := hm.below hs
  replace hj := hj.below hs
  replace hb := hb.trans (hs.mono hb.size)
  clear hs
  go_wp2_with fail
  refine (join_ok hn A (meet A B) _ _ _ hu hm).mono ?_
  rintro e w12 ⟨y, rfl, hy, hs⟩
  replace h0 := h0.below hs
  replace hu := hu.below hs
  replace hv := hv.below hs
  replace hm := hm.below hs
  replace hj := hj.below hs
  replace hx := hx.below hs
  replace hb := hb.trans (hs.mono hb.size)
  clear hs
  go_wp2_with fail
  refine (meet_ok hn B A _ _ _ hv hu).mono ?_
  rintro e w13 ⟨z, rfl, hz, hs⟩
  replace h0 := h0.below hs
  replace hu := hu.below hs
  replace hv := hv.below hs
  replace hm := hm.below hs
  replace hj := hj.below hs
  replace hx := hx.below hs
  replace hy := hy.below hs
  replace hb := hb.trans (hs.mono hb.size)
  clear hs
  go_wp2_with fail
  refine (join_ok hn B A _ _ _ hv hu).mono ?_
  rintro e w14 ⟨t, rfl, ht, hs⟩
  replace h0 := h0.below hs
  replace hu := hu.below hs
  replace hv := hv.below hs
  replace hm := hm.below hs
  replace hj := hj.below hs
  replace hx := hx.below hs
  replace hy := hy.below hs
  replace hz := hz.below hs
  replace hb := hb.trans (hs.mono hb.size)
  clear hs
  go_wp2_with fail
  refine (same_yes hn (meet_join A B) _ _ _ hx hu).mono ?_
  rintro e w15 ⟨rfl, hs⟩
  replace h0 := h0.below hs
  replace hu := hu.below hs
  replace hv := hv.below hs
  replace hm := hm.below hs
  replace hj := hj.below hs
  replace hx := hx.below hs
  replace hy := hy.below hs
  replace hz := hz.below hs
  replace ht := ht.below hs
  replace hb := hb.trans (hs.mono hb.size)
  clear hs
  go_wp2_with fail
  refine (same_yes hn (join_meet A B) _ _ _ hy hu).mono ?_
  rintro e w16 ⟨rfl, hs⟩
  replace h0 := h0.below hs
  replace hu := hu.below hs
  replace hv := hv.below hs
  replace hm := hm.below hs
  replace hj := hj.below hs
  replace hx := hx.below hs
  replace hy := hy.below hs
  replace hz := hz.below hs
  replace ht := ht.below hs
  replace hb := hb.trans (hs.mono hb.size)
  clear hs
  go_wp2_with fail
  refine (same_yes hn (meet_comm B A) _ _ _ hz hm).mono ?_
  rintro e w17 ⟨rfl, hs⟩
  replace h0 := h0.below hs
  replace hu := hu.below hs
  replace hv := hv.below hs
  replace hm := hm.below hs
  replace hj := hj.below hs
  replace hx := hx.below hs
  replace hy := hy.below hs
  replace hz := hz.below hs
  replace ht := ht.below hs
  replace hb := hb.trans (hs.mono hb.size)
  clear hs
  go_wp2_with fail
  refine (same_yes hn (join_comm B A) _ _ _ ht hj).mono ?_
  rintro e w18 ⟨rfl, hs⟩
  replace h0 := h0.below hs
  replace hu := hu.below hs
  replace hv := hv.below hs
  replace hm := hm.below hs
  replace hj := hj.below hs
  replace hx := hx.below hs
  replace hy := hy.below hs
  replace hz := hz.below hs
  replace ht := ht.below hs
  replace hb := hb.trans (hs.mono hb.size)
  clear hs
  go_wp2_with fail
  refine (below_pm hn A B _ _ _ hu hv).mono ?_
  rintro e w19 ⟨b, rfl, hbb, hs⟩
  replace h0 := h0.below hs
  replace hu := hu.below hs
  replace hv := hv.below hs
  replace hm := hm.below hs
  replace hj := hj.below hs
  replace hx := hx.below hs
  replace hy := hy.below hs
  replace hz := hz.below hs
  replace ht := ht.below hs
  replace hb := hb.trans (hs.mono hb.size)
  clear hs
  cases b
  case false =>
    go_wp2_with fail
    go_ret
    exact ⟨rfl, hb⟩
  have hle := hid (hbb.1 rfl)
  clear hbb
  go_wp2_with fail
  refine (same_yes hn (meet_of_le hle.out) _ _ _ hm hu).mono ?_
  rintro e w20 ⟨rfl, hs⟩
  replace h0 := h0.below hs
  replace hu := hu.below hs
  replace hv := hv.below hs
  replace hm := hm.below hs
  replace hj := hj.below hs
  replace hx := hx.below hs
  replace hy := hy.below hs
  replace hz := hz.below hs
  replace ht := ht.below hs
  replace hb := hb.trans (hs.mono hb.size)
  clear hs
  go_wp2_with fail
  refine (same_yes hn (join_of_le hle.out) _ _ _ hj hv).mono ?_
  rintro e w21 ⟨rfl, hs⟩
  replace h0 := h0.below hs
  replace hu := hu.below hs
  replace hv := hv.below hs
  replace hm := hm.below hs
  replace hj := hj.below hs
  replace hx := hx.below hs
  replace hy := hy.below hs
  replace hz := hz.below hs
  replace ht := ht.below hs
  replace hb := hb.trans (hs.mono hb.size)
  clear hs
  go_wp2_with fail
  go_ret
  exact ⟨rfl, hb⟩


end Go.Proofs.Ytgibgcjpehcemaa
