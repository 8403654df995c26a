/- Contracts: drawn words of exchanges. -/
import Derived.Test.YtgibgcjpehcemaaLlt
import Derived.Test.YtgibgcjpehcemaaPrk
namespace Go.Proofs.Ytgibgcjpehcemaa
open Go.RowKit
open Pm

set_option maxHeartbeats 2000000 in
theorem a2at (v : Value) (cs : List Int) (i : Nat) (n : Int) (w : World) (h : Reads w v (bytes cs)) (hr : ∀ i, i < cs.length → 0 ≤ nth cs i ∧ nth cs i ≤ 255) (hi : i < cs.length) (hn : 1 ≤ n) (hn2 : n ≤ 1000) :
    Calls Try.prog 31 #[v, .int .i64 (i : Int), .int .i64 n] w fun e w' => ∃ x : Int, e = .returned (.int .i64 x) ∧ 0 ≤ x ∧ x < n ∧ Below w.heap.size w w' := by
  have hlen := h.len (P := Try.prog) 29 3 ⟨_, sliceY⟩
  rw [length_bytes] at hlen
  have hx := h.idx (P := Try.prog) 29 sliceY sizeY .i64 (i : Int) (by omega) (by rw [length_bytes]; omega)
  simp only [Int.toNat_natCast] at hx
  have hc := h.cell i _ (bytes_at hi)
  have hrr := hr i hi
  clear hr
  generalize nth cs i = y at *
  have hm := hid (⟨Int.emod_nonneg y (show n ≠ 0 by omega), Int.emod_lt_of_pos y (show 0 < n by omega)⟩ : _ ∧ _)
  go_enter Try.func31, Try.ntmps31
  go_wp2_with fail
  go_ret
  exact ⟨_, rfl, hm.out.1, hm.out.2, Below.refl _ _⟩

set_option maxHeartbeats 16000000 in
theorem draww (cv : Value) (cs : List Int) (w : World) (h : Reads w cv (bytes cs)) (hr : ∀ i, i < cs.length → 0 ≤ nth cs i ∧ nth cs i ≤ 255) (hs : cs.length ≤ 1048576) :
    Calls Try.prog 28 #[cv] w fun e w' => ∃ (n : Int) (u : Value) (l : List Int), e = .returned (.tuple #[.int .i64 n, u]) ∧ -1 ≤ n ∧ n ≤ 13 ∧ l.length ≤ 202 ∧ Own w' w.heap.size 2 u (ints l) ∧ Below w.heap.size w w' := by
  go_enter Try.func28, Try.ntmps28
  go_wp2_with fail
  refine (from_src cv cs w h hr hs).mono ?_
  rintro e w1 ⟨rfl, hS1, hb1⟩
  have hgl : w.heap.size < w1.heap.size := by obtain ⟨⟨a, s, h1, h2, h3, hX⟩, -⟩ := hS1; exact hX.lt
  go_wp2_with fail
  refine (size_src w.heap.size cv cs 0 w1 hS1 (by omega) hgl).mono ?_
  rintro e w2 ⟨n, rfl, hn, hS2, hG2⟩
  have hz2 := hG2.size
  have hb2 := hb1.trans (hG2.below (by omega))
  have hA2 := (Below.refl w2.heap.size w2).alloc (Nat.le_refl _) (.cells #[] 2)
  have hO2 := own_empty w2 2 (B := w.heap.size + 1) (by omega)
  have hS3 := hS2.next hA2
  have hb3 := hb2.trans (hA2.mono hb2.size)
  have hz3 := hA2.size
  clear hS1 hS2 hG2 hb1 hb2 hA2 h hr
  go_wp2_with fail
  generalize w2.alloc (.cells #[] 2) = w3 at *
  generalize Value.slice (some ⟨w2.heap.size, 0, none⟩) 0 0 = O at *
  replace hO2 := hid hO2
  replace hb3 := hid hb3
  refine (pick_src w.heap.size cv cs _ 30 w3 hS3 (by omega) (by omega) (by omega)).mono ?_
  rintro e w4 ⟨x, rfl, hx0, hx1, hS4, hG4⟩
  have hz4 := hG4.size
  have hO4 := hid (hG4.own hO2.out (by omega))
  have hb4 := hid (hb3.out.trans (hG4.below (by omega) |>.mono (Nat.le_refl _)))
  clear hS3 hG4 hO2 hb3
  go_wp2_with fail
  refine (one_src w.heap.size cv cs _ 24 w4 hS4 (by omega) (by omega) (by omega)).mono ?_
  rintro e w5 ⟨bb, rfl, hS5, hG5⟩
  have hz5 := hG5.size
  have hO5 := hid (hG5.own hO4.out (by omega))
  have hb5 := hid (hb4.out.trans (hG5.below (by omega)))
  clear hS4 hG5 hO4 hb4
  cases bb
  case' true =>
    go_wp2_with fail
    refine (pick_src w.heap.size cv cs _ 2 w5 hS5 (by omega) (by omega) (by omega)).mono ?_
    rintro e w6 ⟨y, rfl, hy0, hy1, hS6, hG6⟩
    have hz6 := hG6.size
    have hO6 := hid (hG6.own hO5.out (by omega))
    have hb6 := hid (hb5.out.trans (hG6.below (by omega)))
    obtain ⟨mm, hmm, hm0, hm1⟩ : ∃ mm : Int, mm = 200 + y ∧ 0 ≤ mm ∧ mm ≤ 201 := ⟨_, rfl, by omega, by omega⟩
    replace hS6 := hid hS6
    clear hS5 hG6 hO5 hb5
    go_wp2_with fail
    rw [← hmm]
    clear hmm hy0 hy1
  case' false =>
    have hS6 := hid (hS5.more (k' := 0 + 6 + 2 + 2 + 2) (by omega))
    have hO6 := hO5
    have hb6 := hb5
    obtain ⟨mm, hmm, hm0, hm1⟩ : ∃ mm : Int, mm = x ∧ 0 ≤ mm ∧ mm ≤ 201 := ⟨_, rfl, by omega, by omega⟩
    have hz6 := Nat.le_refl w5.heap.size
    generalize w5 = w6 at *
    clear hS5 hO5 hb5
    go_wp2_with fail
    rw [← hmm]
    clear hmm
  all_goals
    clear hx0 hx1
    go_loopw [6, 7] (fun o c wr => ∃ (x : Int) (l : List Int), 0 ≤ x ∧ (l.length : Int) + x ≤ 201 ∧ c = .int .i64 x ∧ Own wr (w.heap.size + 1) 2 o (ints l) ∧ Src wr w.heap.size cv cs (12 + 2 * l.length) ∧ Below w.heap.size w wr) (fun _ c _ => (intOf c).toNat)
    case atStart => exact ⟨mm, [], hm0, by simp; omega, rfl, hO6.out, hS6.out, hb6.out⟩
    case round =>
    clear hO6 hS6 hb6 hm0 hm1
    obtain ⟨x, l, hx0, hx1, rfl, ho, hS, hb⟩ := hrel
    have hzr := hb.size
    by_cases hgo : 0 < x ∧ 1 < n
    case pos =>
      obtain ⟨hg1, hg2⟩ := hgo
      replace ho := hid ho
      replace hb := hid hb
      go_wp2_with fail
      refine (pick_src w.heap.size cv cs _ ((n : Int) - 1) wr hS (by omega) (by omega) (by omega)).mono ?_
      rintro e w7 ⟨y, rfl, hy0, hy1, hS4, hG4⟩
      have ho4 := hG4.own ho.out (by omega)
      have hb4 := hb.out.trans (hG4.below (by omega))
      clear hS hG4 ho hb
      have hA4 := (Below.refl w7.heap.size w7).alloc (Nat.le_refl _) (.cells #[.int .i64 y] 2)
      have hbz := hb4.size
      obtain ⟨v', w8, hrun, ho5, hg5⟩ := app_run (T := 22) (ty := 22) (xs := ints l) (ys := [.int .i64 y]) sliceI infoI rfl (ho4.below hA4) (reads_one w7 (.int .i64 y) 2) (by simp; rfl) (by rw [World.size_alloc]; omega) (by simp; omega) (by decide)
      have hr5 : ∀ q, blk _ = some q → w.heap.size + 1 ≤ q := fun q hq => ((ho4.below hA4).blk_lt hq).1
      have hS5 := hid ((hS4.next hA4).grown hg5 fun q hq => by have := hr5 q hq; omega)
      have hb5 := hid ((hb4.trans (hA4.mono hb4.size)).grown hg5 (by have := hA4.size; omega) fun q hq => by have := hr5 q hq; omega)
      have ho5' := hid (show Own w8 (w.heap.size + 1) 2 v' (ints (l ++ [y])) by simpa [ints] using ho5)
      clear hS4 ho4 hA4 ho5 hg5 hr5 hb4 hbz
      go_wp2_with (at_builtin; refine wpList_app hrun rfl _ _ rfl rfl rfl ?_)
      go_roundw
      case rel => exact ⟨x - 1, l ++ [y], by omega, by simp; omega, by go_num, ho5'.out, hS5.out.more (by simp; omega), hb5.out⟩
      case measure => simp [intOf] <;> omega
    case neg =>
      replace ho := hid ho
      replace hb := hid hb
      by_cases hx : 0 < x
      case' pos =>
        have hn1 : ¬ (1 : Int) < n := fun h => hgo ⟨hx, by omega⟩
        clear hgo
        go_wp2_with fail
      case' neg =>
        clear hgo
        go_wp2_with fail
      all_goals
        refine (pick_src w.heap.size cv cs _ 16 wr hS (by omega) (by omega) (by omega)).mono ?_
        rintro e w7 ⟨y, rfl, hy0, hy1, hS4, hG4⟩
        have hz7 := hG4.size
        have hgl7 : w.heap.size < w7.heap.size := by obtain ⟨⟨a, s, h1, h2, h3, hX⟩, -⟩ := hS4; exact hX.lt
        have ho4 := hG4.own ho.out (by omega)
        have hb4 := hb.out.trans (hG4.below (by omega))
        have hll : l.length ≤ 201 := by omega
        clear hS hG4 ho hb hx1 hx
        by_cases h0 : y = 0
        · subst h0
          have hA := own_arr w7 2 #[.int .i64 (-1), .int .i64 13, .int .i64 0, .int .i64 1] 4 rfl (by omega) (Nat.le_refl _)
          have hbA := (Below.refl w7.heap.size w7).alloc (Nat.le_refl _) (.cells #[.int .i64 (-1), .int .i64 13, .int .i64 0, .int .i64 1] 2)
          have hS5 := hS4.next hbA
          have ho5 := hid (ho4.below hbA)
          have hb5 := hid (hb4.trans (hbA.mono hb4.size))
          have hz8 := hbA.size
          clear hS4 ho4 hb4 hbA
          go_wp2_with fail
          generalize w7.alloc (.cells #[.int .i64 (-1), .int .i64 13, .int .i64 0, .int .i64 1] 2) = w8 at *
          have hA' : Reads w8 (.slice (some ⟨w7.heap.size, 0, none⟩) 4 4) (ints [-1, 13, 0, 1]) := hA.reads
          clear hA
          refine (among_src w.heap.size cv _ cs _ _ w8 hS5 hA' (by simp [blk]; omega) (by simp) (by simp) (by omega)).mono ?_
          rintro e w9 ⟨m, rfl, hm, hS6, hG6⟩
          have ho6 := hid (hG6.own ho5.out (by omega))
          have hb6 := hid (hb5.out.trans (hG6.below (by omega)))
          have hm2 : -1 ≤ m ∧ m ≤ 13 := by
            simp only [List.mem_cons, List.not_mem_nil, or_false] at hm
            omega
          clear hS5 hS6 hG6 hA' hm ho5 hb5
          go_wp2_with fail
          go_ret2
          exact ⟨m, _, l, rfl, hm2.1, hm2.2, by omega, ho6.out.mono (by omega), hb6.out⟩
        · by_cases h1 : y = 1
          · subst h1
            clear h0
            have hA := own_arr w7 2 #[.int .i64 (-1), .int .i64 ((n : Int) - 1), .int .i64 (n : Int)] 3 rfl (by omega) (Nat.le_refl _)
            have hbA := (Below.refl w7.heap.size w7).alloc (Nat.le_refl _) (.cells #[.int .i64 (-1), .int .i64 ((n : Int) - 1), .int .i64 (n : Int)] 2)
            have hS5 := hS4.next hbA
            have ho5 := hid (ho4.below hbA)
            have hb5 := hid (hb4.trans (hbA.mono hb4.size))
            have hz8 := hbA.size
            clear hS4 ho4 hb4 hbA
            go_wp2_with fail
            generalize w7.alloc (.cells #[.int .i64 (-1), .int .i64 ((n : Int) - 1), .int .i64 (n : Int)] 2) = w8 at *
            have hA' : Reads w8 (.slice (some ⟨w7.heap.size, 0, none⟩) 3 3) (ints [-1, (n : Int) - 1, (n : Int)]) := hA.reads
            clear hA
            refine (among_src w.heap.size cv _ cs _ _ w8 hS5 hA' (by simp [blk]; omega) (by simp) (by simp) (by omega)).mono ?_
            rintro e w9 ⟨m, rfl, hm, hS6, hG6⟩
            have hz9 := hG6.size
            have ho6 := hG6.own ho5.out (by omega)
            have hb6 := hb5.out.trans (hG6.below (by omega))
            clear hS5 hS6 hG6 hA' hm ho5 hb5
            have hA4 := (Below.refl w9.heap.size w9).alloc (Nat.le_refl _) (.cells #[.int .i64 m] 2)
            obtain ⟨v', wA, hrun, ho7, hg7⟩ := app_run (T := 22) (ty := 22) (xs := ints l) (ys := [.int .i64 m]) sliceI infoI rfl (ho6.below hA4) (reads_one w9 (.int .i64 m) 2) (by simp; rfl) (by rw [World.size_alloc]; omega) (by simp; omega) (by decide)
            have hr7 : ∀ q, blk _ = some q → w.heap.size + 1 ≤ q := fun q hq => ((ho6.below hA4).blk_lt hq).1
            have hb7 := hid ((hb6.trans (hA4.mono hb6.size)).grown hg7 (by rw [World.size_alloc]; omega) fun q hq => by have := hr7 q hq; omega)
            have ho8 := hid (show Own wA (w.heap.size + 1) 2 v' (ints (l ++ [m])) by simpa [ints] using ho7)
            clear ho6 hA4 ho7 hg7 hr7 hb6
            go_wp2_with (at_builtin; refine wpList_app hrun rfl _ _ rfl rfl rfl ?_)
            go_ret2
            exact ⟨n, _, l ++ [m], rfl, by omega, by omega, by simp; omega, ho8.out.mono (by omega), hb7.out⟩
          · replace ho4 := hid ho4
            replace hb4 := hid hb4
            go_wp2_with fail
            go_ret2
            exact ⟨n, _, l, rfl, by omega, by omega, by omega, ho4.out.mono (by omega), hb4.out⟩


end Go.Proofs.Ytgibgcjpehcemaa
