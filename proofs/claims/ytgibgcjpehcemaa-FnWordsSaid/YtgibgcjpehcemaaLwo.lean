/- Walk of the law on words of exchanges. -/
import Derived.Test.YtgibgcjpehcemaaLpe
import Derived.Test.YtgibgcjpehcemaaDwr
namespace Go.Proofs.Ytgibgcjpehcemaa
open Go.RowKit
open Pm
set_option linter.unusedSimpArgs false

theorem takes_in {n : Int} {l : List Int} (h : takes n l = true) : ∃ N : Nat, n = N ∧ N ≤ 12 ∧ l.length ≤ 200 ∧ Wgo N l := by
  unfold takes at h
  simp only [Bool.and_eq_true, decide_eq_true_eq] at h
  obtain ⟨⟨h1, h2⟩, h3⟩ := h
  have h4 := inB_yes h1
  obtain ⟨N, rfl⟩ := Int.eq_ofNat_of_zero_le h4.1
  refine ⟨N, rfl, by omega, h2, fun i hi => ?_⟩
  have := wordOk_at h3 hi
  omega
theorem takes_mk {N : Nat} {l : List Int} (h0 : N ≤ 12) (h1 : l.length ≤ 200) (h2 : Wgo N l) : takes (N : Int) l = true := by
  unfold takes
  have h4 : wordOk N l l.length = true := by
    unfold wordOk
    rw [List.all_eq_true]
    intro i hi
    rw [List.mem_range] at hi
    have := h2 i hi
    simp [inB]; omega
  rw [h4]
  simp [inB]
  omega
theorem Wgo.snoc {N : Nat} {l : List Int} (h : Wgo N l) {y : Int} (h0 : 0 ≤ y) (h1 : y + 1 < N) : Wgo N (l ++ [y]) := h.app (v := [y]) fun i hi => by
  have : i = 0 := by simpa using hi
  subst this
  simpa [nth] using ⟨h0, h1⟩
theorem wd_ok {N : Nat} {l : List Int} (h0 : N ≤ 12) (h1 : l.length ≤ 200) (h2 : Wgo N l) (v : Value) (w : World) (h : Reads w v (ints l)) :
    Calls Try.prog 29 #[.int .i64 (N : Int), v] w fun e w' => ∃ x, e = .returned (.tuple #[x, .bool true]) ∧ Reads w' x (ints (wordF N l)) ∧ Below w.heap.size w w' := by
  refine (WordI N v l w (by omega) h).mono ?_
  rintro e w' ⟨x, rfl, ho, hs⟩
  rw [takes_mk h0 h1 h2] at ho ⊢
  exact ⟨x, rfl, by simpa [onlyIf] using ho.reads, hs⟩


set_option maxHeartbeats 16000000 in
theorem walk_FnWords (a0 : Value) (cs : List Int) (a1 : Value) (ds : List Int) (W : World) (h0 : Reads W a0 (bytes cs)) (h1 : Reads W a1 (bytes ds)) (hr : ∀ i, i < cs.length → 0 ≤ nth cs i ∧ nth cs i ≤ 255) (hr1 : ∀ i, i < ds.length → 0 ≤ nth ds i ∧ nth ds i ≤ 255) :
    Calls Try.prog 8 #[a0, a1] W fun e w' => e = .returned (.bool true) ∧ Below W.heap.size W w' := by
  have hb : Below W.heap.size W W := Below.refl _ _
  have hlen := h1.len (P := Try.prog) 29 3 ⟨_, sliceY⟩
  rw [length_bytes] at hlen
  go_enter Try.func8, Try.ntmps8
  go_wp2_with fail
  refine (a2long a0 a1 cs ds W h0 h1).mono ?_
  rintro e w1 ⟨rfl, hs⟩
  replace h0 := h0.below hs
  replace h1 := h1.below hs
  replace hb := hb.trans (hs.mono hb.size)
  clear hs
  by_cases hl : 3000 < cs.length ∨ 3000 < ds.length
  · have e : (decide (3000 < cs.length) || decide (3000 < ds.length)) = true := by simpa using hl
    rw [e]
    go_wp2_with fail
    go_ret
    exact ⟨rfl, hb⟩
  have e : (decide (3000 < cs.length) || decide (3000 < ds.length)) = false := by simpa using hl
  rw [e]
  have hl1 : cs.length ≤ 3000 := by omega
  have hl2 : ds.length ≤ 3000 := by omega
  clear e hl
  go_wp2_with fail
  refine (draww a0 cs w1 h0 hr (by omega)).mono ?_
  rintro e w2 ⟨n, u, l, rfl, hn0, hn1, hll, hu, hs⟩
  replace h1 := h1.below hs
  replace hb := hb.trans (hs.mono hb.size)
  clear hs h0 hr
  replace hu := hu.reads
  go_wp2_with fail
  refine (WordI n u l w2 (by omega) hu).mono ?_
  rintro e w3 ⟨x, rfl, hx, hs⟩
  replace h1 := h1.below hs
  replace hu := hu.below hs
  replace hb := hb.trans (hs.mono hb.size)
  clear hs
  cases ht : takes n l with
  | false =>
    clear hx
    go_wp2_with fail
    refine (WordS n u l w3 (by omega) hu).mono ?_
    rintro e w4 ⟨y, rfl, hy, hs⟩
    replace hb := hb.trans (hs.mono hb.size)
    clear hs hy
    rw [ht]
    go_wp2_with fail
    go_ret
    exact ⟨rfl, hb⟩
  | true =>
    rw [ht] at hx
    obtain ⟨N, rfl, hN, hl200, hg⟩ := takes_in ht
    clear ht hn0 hn1
    have hX : Reads w3 x (ints (wordF N l)) := by simpa [onlyIf] using hx.reads
    clear hx
    replace hg := hid hg
    have hlu := hu.len (P := Try.prog) 22 3 ⟨_, sliceI⟩
    rw [length_ints] at hlu
    have hO := own_empty w3 2 (B := w3.heap.size) (Nat.le_refl _)
    have hA := (Below.refl w3.heap.size w3).alloc (Nat.le_refl _) (.cells #[] 2)
    go_wp2_with fail
    generalize w3.alloc (.cells #[] 2) = w4 at *
    generalize Value.slice (some ⟨w3.heap.size, 0, none⟩) 0 0 = O at *
    replace hO := hid hO
    replace hA := hid hA
    replace hX := hid hX
    replace hu := hid hu
    replace hb := hid hb
    replace h1 := hid h1
    go_loopw [11, 12] (fun o c wr => ∃ m : List Int, m.length ≤ 40 ∧ m.length ≤ ds.length ∧ c = .int .i64 (m.length : Nat) ∧ Hid (Wgo N m) ∧ Own wr w3.heap.size 2 o (ints m) ∧ Below w3.heap.size w3 wr) (fun _ c _ => 40 - (intOf c).toNat)
    case atStart => exact ⟨[], by simp, by simp, rfl, fun i hi => absurd hi (by simp), hO.out, hA.out⟩
    case round =>
    clear hO hA
    obtain ⟨m, hm0, hm1, rfl, hgm, ho, hbr⟩ := hrel
    have hzr := hbr.size
    by_cases hgo : m.length < ds.length ∧ m.length < 40 ∧ 1 < N
    case pos =>
      obtain ⟨g1, g2, g3⟩ := hgo
      have g1' : (m.length : Int) < (ds.length : Int) := by omega
      have g2' : (m.length : Int) < 40 := by omega
      have g3' : (1 : Int) < (N : Int) := by omega
      replace ho := hid ho
      replace hbr := hid hbr
      have hC := hid (a2at a1 ds m.length ((N : Int) - 1) wr ((h1.out.below hbr.out)) hr1 g1 (by omega) (by omega))
      go_wp2_with fail
      refine hC.out.mono ?_
      rintro e w7 ⟨y, rfl, hy0, hy1, hs⟩
      have ho4 := ho.out.below hs
      have hb4 := hbr.out.trans (hs.mono hbr.out.size)
      have hz4 := hb4.size
      clear hC hs ho hbr
      have hA4 := (Below.refl w7.heap.size w7).alloc (Nat.le_refl _) (.cells #[.int .i64 y] 2)
      obtain ⟨v', w8, hrun, ho5, hg5⟩ := app_run (T := 22) (ty := 22) (xs := ints m) (ys := [.int .i64 y]) sliceI infoI rfl (ho4.below hA4) (reads_one w7 (.int .i64 y) 2) (by simp; rfl) (by rw [World.size_alloc]; omega) (by simp; omega) (by decide)
      have hr5 : ∀ q, blk _ = some q → w3.heap.size ≤ q := fun q hq => ((ho4.below hA4).blk_lt hq).1
      have hb5 := hid ((hb4.trans (hA4.mono hb4.size)).grown hg5 (by rw [World.size_alloc]; omega) hr5)
      have ho5' := hid (show Own w8 w3.heap.size 2 v' (ints (m ++ [y])) by simpa [ints] using ho5)
      have hgn := hid (hgm.out.snoc hy0 (by omega))
      clear ho4 hA4 ho5 hg5 hr5 hb4 hgm
      go_wp2_with (at_builtin; refine wpList_app hrun rfl _ _ rfl rfl rfl ?_)
      go_roundw
      case rel => exact ⟨m ++ [y], by rw [List.length_append, List.length_singleton]; omega, by rw [List.length_append, List.length_singleton]; omega, by simp, hgn, ho5'.out, hb5.out⟩
      case measure => simp [intOf] <;> omega
    case neg =>
      replace ho := hid ho.reads
      replace hbr := hid hbr
      have hX2 := hid (hX.out.below hbr.out)
      have hu2 := hid (hu.out.below hbr.out)
      have hb2 := hid (hb.out.trans (hbr.out.mono hb.out.size))
      have hlm := ho.out.len (P := Try.prog) 22 3 ⟨_, sliceI⟩
      rw [length_ints] at hlm
      clear hX hu hb h1 hr1
      by_cases e1 : m.length < ds.length
      case' neg =>
        have e1' : ¬ (m.length : Int) < (ds.length : Int) := by omega
        clear hgo e1
        go_wp2_with fail
      case' pos =>
        have e1' : (m.length : Int) < (ds.length : Int) := by omega
        by_cases e2 : m.length < 40
        case' neg =>
          have e2' : ¬ (m.length : Int) < 40 := by omega
          clear hgo e1 e2
          go_wp2_with fail
        case' pos =>
          have e2' : (m.length : Int) < 40 := by omega
          have e3' : ¬ (1 : Int) < (N : Int) := by omega
          clear hgo e1 e2
          go_wp2_with fail
      all_goals
        refine (wd_ok hN (by omega) hgm.out _ _ ho.out).mono ?_
        rintro e w5 ⟨q, rfl, hq, hs⟩
        replace hX2 := hid (hX2.out.below hs)
        replace hu2 := hid (hu2.out.below hs)
        replace ho := hid (ho.out.below hs)
        replace hb2 := hid (hb2.out.trans (hs.mono hb2.out.size))
        replace hq := hid hq
        clear hs hbr
        by_cases h200 : l.length + m.length > 200
        · have h200' : (200 : Int) < (l.length : Int) + (m.length : Int) := by omega
          go_wp2_with fail
          go_ret
          exact ⟨rfl, hb2.out⟩
        · have h200' : ¬ (200 : Int) < (l.length : Int) + (m.length : Int) := by omega
          have hA := (Below.refl w5.heap.size w5).alloc (Nat.le_refl _) (.cells #[] 2)
          have hzA : (w5.alloc (.cells #[] 2)).heap.size = w5.heap.size + 1 := World.size_alloc _ _
          have hO := own_empty w5 2 (B := w5.heap.size) (Nat.le_refl _)
          obtain ⟨v1, wA, hrun1, hA1, hg1⟩ := app_run (T := 22) (ty := 22) (xs := []) (ys := ints l) sliceI infoI rfl hO (hu2.out.below hA) (oneCell_ints _) (by omega) (by simp; omega) (by decide)
          have hr1 : ∀ q, blk _ = some q → w5.heap.size ≤ q := fun q hq => (hO.blk_lt hq).1
          have hbA := hA.grown hg1 (by omega) hr1
          have hA1' : Own wA w5.heap.size 2 v1 (ints l) := by simpa using hA1
          obtain ⟨v2, wB, hrun2, hA2, hg2⟩ := app_run (T := 22) (ty := 22) (xs := ints l) (ys := ints m) sliceI infoI rfl hA1' (ho.out.below hbA) (oneCell_ints _) hbA.size (by simp; omega) (by decide)
          have hr2 : ∀ q, blk _ = some q → w5.heap.size ≤ q := fun q hq => (hA1'.blk_lt hq).1
          have hbB := hid (hbA.grown hg2 hbA.size hr2)
          have hAll := hid (show Reads wB v2 (ints (l ++ m)) by simpa [ints] using hA2.reads)
          clear hA hzA hO hA1 hg1 hr1 hbA hA1' hA2 hg2 hr2
          go_wp2_with (at_builtin; (first | refine wpList_app hrun1 rfl _ _ rfl rfl rfl ?_ | refine wpList_app hrun2 rfl _ _ rfl rfl rfl ?_))
          refine (wd_ok hN (by simp; omega) (hg.out.app hgm.out) _ _ hAll.out).mono ?_
          rintro e w6 ⟨y, rfl, hy, hs⟩
          have hs5 : Below w5.heap.size w5 w6 := hbB.out.trans (hs.mono hbB.out.size)
          clear hs hbB hAll hrun1 hrun2
          obtain ⟨A, hAe⟩ := word_pm hg.out
          obtain ⟨B, hBe⟩ := word_pm hgm.out
          have hc := word_comp hg.out hgm.out
          rw [hc, hAe, hBe, comp_val] at hy
          have hX3 := hX2.out.below hs5
          rw [hAe] at hX3
          have hq3 := hq.out.below hs5
          rw [hBe] at hq3
          replace hb2 := hid (hb2.out.trans (hs5.mono hb2.out.size))
          clear hAe hBe hc hX2 hq hs5
          go_wp2_with fail
          refine (co_ok hN A B _ _ _ hX3 hq3).mono ?_
          rintro e w7 ⟨z, rfl, hz, hs⟩
          replace hy := hy.below hs
          replace hb2 := hid (hb2.out.trans (hs.mono hb2.out.size))
          clear hs hX3 hq3
          go_wp2_with fail
          refine (same_yes hN (rfl : mul A B = mul A B) _ _ _ hy hz).mono ?_
          rintro e w8 ⟨rfl, hs⟩
          replace hb2 := hb2.out.trans (hs.mono hb2.out.size)
          clear hs
          go_wp2_with fail
          go_ret
          exact ⟨rfl, hb2⟩


end Go.Proofs.Ytgibgcjpehcemaa
