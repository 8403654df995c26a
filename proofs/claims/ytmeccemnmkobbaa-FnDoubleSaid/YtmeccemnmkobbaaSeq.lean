/- Contracts: two words of the same braid. -/
import Derived.Test.YtmeccemnmkobbaaSre
import Derived.Test.YtmeccemnmkobbaaRl
import Derived.Test.YtmeccemnmkobbaaBrd
import Derived.Test.YtmeccemnmkobbaaRwb
namespace Go.Proofs.Ytmeccemnmkobbaa
open Go.RowKit
open Pm

theorem lv_bd {n : Nat} {l : List Int} (hL : ∀ x ∈ l, Lv n x) (hn : n ≤ 12) {i : Nat} (hi : i < l.length) : nth l i ≠ 0 ∧ -12 < nth l i ∧ nth l i < 12 := by
  have := hL _ (nth_in hi)
  exact ⟨this.1, by have := this.2; omega, by have := this.2; omega⟩
theorem two_of_at {l : List Int} {c : Nat} (h : c + 1 < l.length) : l = l.take c ++ [nth l c, nth l (c + 1)] ++ l.drop (c + 2) := by
  have e1 : l.drop c = nth l c :: l.drop (c + 1) := by rw [List.drop_eq_getElem_cons (by omega)]; simp [nth, show c < l.length by omega]
  have e2 : l.drop (c + 1) = nth l (c + 1) :: l.drop (c + 2) := by rw [List.drop_eq_getElem_cons h]; simp [nth, h]
  conv => lhs; rw [← List.take_append_drop c l, e1, e2]
  simp
theorem set_mid (A B : List Int) (x y : Int) : (A ++ x :: B).set A.length y = A ++ y :: B := by simp
theorem swap_at {l : List Int} {c : Nat} (h : c + 1 < l.length) : (l.set c (nth l (c + 1))).set (c + 1) (nth l c) = l.take c ++ [nth l (c + 1), nth l c] ++ l.drop (c + 2) := by
  have e := two_of_at h
  have hlen : (l.take c).length = c := by simp; omega
  generalize nth l c = x at *
  generalize nth l (c + 1) = y at *
  generalize l.take c = A at *
  generalize l.drop (c + 2) = B at *
  subst hlen
  rw [e]
  simp

theorem mul_bd {a b : Int} (h1 : -12 < a) (h2 : a < 12) (h3 : -12 < b) (h4 : b < 12) : -200 < a * b ∧ a * b < 200 := by
  have h : (a * b).natAbs ≤ 11 * 11 := by rw [Int.natAbs_mul]; exact Nat.mul_le_mul (by omega) (by omega)
  omega
theorem three_of_at {l : List Int} {c : Nat} (h : c + 2 < l.length) : l = l.take c ++ [nth l c, nth l (c + 1), nth l (c + 2)] ++ l.drop (c + 3) := by
  have e3 : l.drop (c + 2) = nth l (c + 2) :: l.drop (c + 3) := by rw [List.drop_eq_getElem_cons h]; simp [nth, h]
  have := two_of_at (l := l) (c := c) (by omega)
  rw [e3] at this
  simpa using this
theorem swap3_at {l : List Int} {c : Nat} {a b : Int} (h : c + 2 < l.length) : ((l.set c b).set (c + 1) a).set (c + 2) b = l.take c ++ [b, a, b] ++ l.drop (c + 3) := by
  have e := three_of_at h
  have hlen : (l.take c).length = c := by simp; omega
  generalize nth l c = x at *
  generalize nth l (c + 1) = y at *
  generalize nth l (c + 2) = z at *
  generalize l.take c = A at *
  generalize l.drop (c + 3) = B at *
  subst hlen
  rw [e]
  simp
theorem app2_late {w5 w6 : World} {B : Nat} {p : Value} {xs : List Int} (a b : Int) (hp : Own w6 B 2 p (ints xs)) (hb : Below B w5 w6) (hl : xs.length ≤ 1000) (hB : B ≤ w6.heap.size := by omega) :
    ∃ q w7, (Builtin.append_ #[32, 32] 32 #[p, .slice (some ⟨w6.heap.size, 0, none⟩) 2 2]).run Try.prog (w6.alloc (.cells #[.int .i64 a, .int .i64 b] 2)) = .ok q w7 ∧ Own w7 B 2 q (ints (xs ++ [a, b])) ∧ Below B w5 w7 := by
  have hA := (own_arr w6 2 #[.int .i64 a, .int .i64 b] 2 rfl (by omega) (Nat.le_refl _)).reads
  have hA' : Reads (w6.alloc (.cells #[.int .i64 a, .int .i64 b] 2)) (.slice (some ⟨w6.heap.size, 0, none⟩) 2 2) (ints [a, b]) := hA
  obtain ⟨q, w7, hr, ho, hg⟩ := app_run (T := 32) (ty := 32) (xs := ints xs) (ys := ints [a, b]) sliceI infoI rfl (own_alloc hp _) hA' (oneCell_ints _) (by simp; omega) (by simp; omega) (by decide)
  exact ⟨q, w7, hr, by simpa [ints] using ho, (hb.alloc hB _).grown hg (by simp; omega) fun k hk => (hp.blk_lt hk).1⟩
theorem app2_early {w5 wd w6 : World} {B : Nat} {p : Value} {xs : List Int} {a b : Int} (hp : Own w6 B 2 p (ints xs)) (hb : Below B w5 w6) (hs : Below (wd.alloc (.cells #[.int .i64 a, .int .i64 b] 2)).heap.size (wd.alloc (.cells #[.int .i64 a, .int .i64 b] 2)) w6) (hl : xs.length ≤ 1000) (hB : B ≤ w6.heap.size := by omega) :
    ∃ q w7, (Builtin.append_ #[32, 32] 32 #[p, .slice (some ⟨wd.heap.size, 0, none⟩) 2 2]).run Try.prog w6 = .ok q w7 ∧ Own w7 B 2 q (ints (xs ++ [a, b])) ∧ Below B w5 w7 := by
  have hA := (own_arr wd 2 #[.int .i64 a, .int .i64 b] 2 rfl (by omega) (Nat.le_refl _)).reads
  have hA' : Reads w6 (.slice (some ⟨wd.heap.size, 0, none⟩) 2 2) (ints [a, b]) := hA.below hs
  obtain ⟨q, w7, hr, ho, hg⟩ := app_run (T := 32) (ty := 32) (xs := ints xs) (ys := ints [a, b]) sliceI infoI rfl hp hA' (oneCell_ints _) hB (by simp; omega) (by decide)
  exact ⟨q, w7, hr, by simpa [ints] using ho, hb.grown hg hB fun k hk => (hp.blk_lt hk).1⟩

theorem app2_drew {w5 wd w6 : World} {B : Nat} {p : Value} {xs : List Int} {a b : Int} (hp : Own w6 B 2 p (ints xs)) (hb : Below B w5 w6) (hs : Below (wd.alloc (.cells #[.int .i64 a, .int .i64 b] 2)).drew.heap.size (wd.alloc (.cells #[.int .i64 a, .int .i64 b] 2)).drew w6) (hl : xs.length ≤ 1000) (hB : B ≤ w6.heap.size := by omega) :
    ∃ q w7, (Builtin.append_ #[32, 32] 32 #[p, .slice (some ⟨wd.heap.size, 0, none⟩) 2 2]).run Try.prog w6 = .ok q w7 ∧ Own w7 B 2 q (ints (xs ++ [a, b])) ∧ Below B w5 w7 := by
  have hA := (own_arr wd 2 #[.int .i64 a, .int .i64 b] 2 rfl (by omega) (Nat.le_refl _)).reads
  have hA' : Reads w6 (.slice (some ⟨wd.heap.size, 0, none⟩) 2 2) (ints [a, b]) := (hA.drewN 1).below hs
  obtain ⟨q, w7, hr, ho, hg⟩ := app_run (T := 32) (ty := 32) (xs := ints xs) (ys := ints [a, b]) sliceI infoI rfl hp hA' (oneCell_ints _) hB (by simp; omega) (by decide)
  exact ⟨q, w7, hr, by simpa [ints] using ho, hb.grown hg hB fun k hk => (hp.blk_lt hk).1⟩

set_option maxRecDepth 100000 in
set_option maxHeartbeats 16000000 in
theorem relate_src (g : Nat) (cv v : Value) (cs l : List Int) (k n : Nat) (w : World) (h : Src w g cv cs k) (hv : Reads w v (ints l)) (hk : k ≤ 9000) (hn2 : 2 ≤ n) (hn : n ≤ 12) (hg : g < w.heap.size) (hl : l.length ≤ 15) (hL : ∀ x ∈ l, Lv n x) :
    Calls Try.prog 91 #[.pointer (some ⟨g, 0, none⟩), .int .i64 (n : Int), v] w fun e w' => ∃ u m, e = .returned u ∧ Own w' w.heap.size 2 u (ints m) ∧ m.length ≤ 15 ∧ Rels n l m ∧ Src w' g cv cs (k + 60) ∧ GrG w w' g := by
  go_enter Try.func91, Try.ntmps91
  go_wp2_with fail
  refine (own_copy v l w hv (by omega)).mono ?_
  rintro e w1 ⟨o, rfl, ho, hs1⟩
  have hS1 := h.next hs1
  have hG1 := GrG.ofBelow g hs1
  have hz1 := hs1.size
  replace ho := hid ho
  replace hG1 := hid hG1
  replace hL := hid hL
  clear h hv hs1
  go_wp2_with fail
  refine (pick_src g cv cs k 8 w1 hS1 (by omega) (by omega) (by omega)).mono ?_
  rintro e w2 ⟨x, rfl, hx0, hx1, hS2, hG2⟩
  have ho2 := hid (hG2.own ho.out hg)
  have hG2' := hid (hG1.out.trans hG2)
  replace hS2 := hid hS2
  clear hS1 hG2 ho hG1
  go_wp2_with fail
  go_loopw [7, 8, 9, 10, 11, 12] (fun o q _ _ _ _ wr => ∃ (x : Int) (m : List Int), 0 ≤ x ∧ x ≤ 7 ∧ q = .int .i64 x ∧ Own wr w.heap.size 2 o (ints m) ∧ m.length ≤ 15 ∧ Rels n l m ∧ Src wr g cv cs (k + 2 + 6 * (7 - x.toNat)) ∧ GrG w wr g) (fun _ q _ _ _ _ _ => (intOf q).toNat)
  case atStart => exact ⟨x, l, hx0, by omega, rfl, ho2.out, hl, Rels.refl l, hS2.out.more (by omega), hG2'.out⟩
  case round =>
    clear ho2 hG2' hS2 hx0 hx1
    obtain ⟨x, m, hx0, hx1, rfl, ho, hml, hR, hS, hG⟩ := hrel
    by_cases hlt : 0 < x
    case neg =>
      obtain rfl : x = 0 := by omega
      go_wp2_with fail
      go_ret
      exact ⟨_, rfl, m, ho, hml, hR, hS.more (by simp), hG⟩
    case pos =>
    have hln := ho.reads.len (P := Try.prog) 32 3 ⟨_, sliceI⟩
    rw [length_ints] at hln
    replace ho := hid ho
    replace hG := hid hG
    replace hR := hid hR
    go_wp2_with fail
    refine (pick_src g cv cs _ ((m.length : Int) + 1) wr hS (by omega) (by omega) (by omega)).mono ?_
    rintro e w3 ⟨y, rfl, hy0, hy1, hS3, hG3⟩
    obtain ⟨c, rfl⟩ := Int.eq_ofNat_of_zero_le hy0
    have hcm : c ≤ m.length := by omega
    clear hS hy1
    go_wp2_with fail
    refine (pick_src g cv cs _ 3 w3 hS3 (by omega) (by omega) (by omega)).mono ?_
    rintro e w4 ⟨s, rfl, hs0, hs1, hS4, hG4⟩
    have ho4 := hG4.own (hG3.own ho.out hg) hg
    have hG5 := hid ((hG.out.trans hG3).trans hG4)
    have hz4 := hG5.out.size
    clear hS3 hG3 hG4 ho hG
    have hLm := hid (hR.out.lv hL.out)
    by_cases s0 : s = 0
    case pos =>
      subst s0
      replace ho4 := hid ho4
      go_wp2_with fail
      refine (pick_src g cv cs _ ((n : Int) - 1) w4 hS4 (by omega) (by omega) (by omega)).mono ?_
      rintro e w5 ⟨y, rfl, hy0, hy1, hS5, hG6⟩
      have hy2 : 1 + y ≤ n - 1 := by omega
      have ho5 := hG6.own ho4.out hg
      have hG7 := hid (hG5.out.trans hG6)
      have hz5 := hG7.out.size
      clear hS4 hG6 ho4 hG5 hy1
      obtain ⟨z, hz, hz0⟩ : ∃ z : Int, z = 1 + y ∧ Lv n z := ⟨1 + y, rfl, by omega, by omega⟩
      by_cases h14 : m.length < 14
      case neg =>
        have h14' : ¬ (m.length : Int) < 14 := by omega
        replace ho5 := hid ho5
        replace hS5 := hid hS5
        clear hz hz0
        go_wp2_with fail
        go_roundw
        case rel => exact ⟨x - 1, m, by omega, by omega, by go_num, ho5.out, hml, hR.out, hS5.out.more (by omega), hG7.out⟩
        case measure => simp [intOf] <;> omega
      case pos =>
        have h14' : (m.length : Int) < 14 := by omega
        have hsu := ho5.reads.upto_run (P := Try.prog) (T := 32) sliceI sizeI .i64 (c : Int) (by omega) (by rw [length_ints]; omega)
        have hsd := ho5.reads.onwards_run (P := Try.prog) (T := 32) sliceI sizeI .i64 (c : Int) (by omega) (by rw [length_ints]; omega)
        simp only [Int.toNat_natCast] at hsu hsd
        have hru := ho5.reads.upto c (by rw [length_ints]; omega)
        have hrd := ho5.reads.onwards c (by rw [length_ints]; omega)
        have eu : (ints m).take c = ints (m.take c) := by simp [ints, List.map_take]
        have ed : (ints m).drop c = ints (m.drop c) := by simp [ints, List.map_drop]
        rw [eu] at hru
        rw [ed] at hrd
        have htl : (m.take c).length = c := by simp; omega
        have hdl : (m.drop c).length = m.length - c := by simp
        have hC := hid (fun (w' : World) (hw : Below w5.heap.size w5 w') => own_copy (upto u7 c) (m.take c) w' (hru.below hw) (by omega))
        have hbD := hid ((Below.refl w5.heap.size w5).drew)
        have hbA := hid ((Below.refl w5.heap.size w5).drew.alloc (Nat.le_refl _) (.cells #[.int .i64 (1 + y), .int .i64 (-(1 + y))] 2))
        have hrd' := hid (fun (w' : World) (hw : Below w5.heap.size w5 w') => hrd.below hw)
        have hz' := hid hz
        have hdz : w5.drew.heap.size = w5.heap.size := rfl
        have hwr := Go.IntWalk.i64_in (-(1 + y)) (by omega)
        replace hS5 := hid hS5
        have hrel := hid (show Rel1 n m (m.take c ++ [1 + y, -(1 + y)] ++ m.drop c) from by have := Rel1.cancel (m.take c) (m.drop c) z hz0; rw [hz, List.take_append_drop] at this; exact this)
        clear ho5 hru hrd eu ed hz hz0
        go_wp2_with fail
        go_region_law ((first | (refine step_call (hC.out _ (by first | exact hbD.out | exact hbA.out)) (fun _ => by kernel_rfl) rfl (.tmp 109) rfl (by simp [Act.eval, Act.put]) ?_; rintro e w6 ⟨p, rfl, hp, hs6⟩; refine ⟨_, rfl, ?_⟩; have hb6 : Below w5.heap.size w5 w6 := (by first | exact hbD.out.trans hs6 | exact hbA.out.trans (hs6.mono (by simp))); have hp6 : Own w6 w5.heap.size 2 p (ints (m.take c)) := (by first | exact hp | exact hp.mono (by simp)); have hz6 := hb6.size; (first | have hq7 := app2_drew hp6 hb6 hs6 (by omega) | have hq7 := app2_early hp6 hb6 hs6 (by omega) | have hq7 := app2_late (1 + y) (-(1 + y)) hp6 hb6 (by omega)); obtain ⟨q, w7, hrun, hq, hb7⟩ := hq7; have hq7b := hq; obtain ⟨r, w8, hrun2, hr8, hg8⟩ := app_run (T := 32) (ty := 32) (ys := ints (m.drop c)) sliceI infoI rfl hq (hrd'.out _ hb7) (oneCell_ints _) hb7.size (by simp; omega) (by decide)) | (refine step_app hrun rfl (.tmp 110) (.tmp 114) rfl (by simp [Act.eval]) (by simp [Act.eval]) ?_) | (refine step_app hrun2 rfl (.tmp 115) (.tmp 118) rfl (by simp [Act.eval]) (by simp [Act.eval]) ?_)))
        all_goals
          have hb8 := hb7.grown hg8 hb7.size (fun q hq => (hq7b.blk_lt hq).1)
          have hS8 := hid ((hS5.out.next hb8).more (k' := k + 2 + 6 * (7 - (x - 1).toNat)) (by omega))
          have hG8 := hid (hG7.out.trans (GrG.ofBelow g hb8))
          have ho8 := hid (show Own w8 w.heap.size 2 r (ints (m.take c ++ [1 + y, -(1 + y)] ++ m.drop c)) from by have := hr8.mono (B' := w.heap.size) (by omega); simpa [ints] using this)
          clear hC hbD hbA hrd' hb7 hg8 hb8 hr8 hq7b hq hp6 hp hb6 hs6 hG7 hS5
          go_wp2_with fail
          go_roundw
          case rel => exact ⟨x - 1, _, by omega, by omega, by go_num, ho8.out, by simp; omega, Rels.step hR.out hrel.out, hS8.out, hG8.out⟩
          case measure => simp [intOf] <;> omega
    case neg =>
    have s0f : (s == 0) = false := by rw [beq_eq_false_iff_ne]; exact s0
    have hidx : ∀ (j : Nat), j < m.length → ∀ w', (Instr.indexAt 32 u7 (.int .i64 (j : Int))).run Try.prog w' = .ok (.pointer (some (adr u7 j))) w' := fun j hj w' => by
      have := ho4.reads.idx (P := Try.prog) 32 sliceI sizeI .i64 (j : Int) (by omega) (by rw [length_ints]; omega) w'
      simpa using this
    have hcel : ∀ (j : Nat), j < m.length → ∀ w', Below w4.heap.size w4 w' → w'.cell? (adr u7 j) = some (.int .i64 (nth m j)) := fun j hj w' hw => (ho4.reads.below hw).cell j _ (ints_at hj)
    replace hidx := hid hidx
    replace hcel := hid hcel
    by_cases s1 : s = 1
    case pos =>
      subst s1
      by_cases hc1 : c + 1 < m.length
      case neg =>
        have hcc : ¬ ((c : Int) + 1 < m.length) := by omega
        have hwr2 := Go.IntWalk.i64_in ((c : Int) + 1) (by omega)
        have hcd : decide ((c : Int) + 1 < (m.length : Int)) = false := decide_eq_false hcc
        replace ho4 := hid ho4
        replace hS4 := hid hS4
        go_wp2_with fail
        go_quiet (fail)
        have hq := below_drewN (Below.refl w4.heap.size w4) nq
        have hSq := hid ((hS4.out.next hq).more (k' := k + 2 + 6 * (7 - (x - 1).toNat)) (by omega))
        have hGq := hid (hG5.out.trans (GrG.ofBelow g hq))
        have hoq := hid (ho4.out.below hq)
        clear hq
        go_wp2_with fail
        go_roundw
        case rel => exact ⟨x - 1, m, by omega, by omega, by go_num, hoq.out, hml, hR.out, hSq.out, hGq.out⟩
        case measure => simp [intOf] <;> omega
      case pos =>
        have hcc : (c : Int) + 1 < m.length := by omega
        have i1 := hidx.out c (by omega)
        have i2 := hidx.out (c + 1) hc1
        have i2' : ∀ w', (Instr.indexAt 32 u7 (.int .i64 ((c : Int) + 1))).run Try.prog w' = .ok (.pointer (some (adr u7 (c + 1)))) w' := i2
        have c1 := hcel.out c (by omega) w4 (Below.refl _ _)
        have c2 := hcel.out (c + 1) hc1 w4 (Below.refl _ _)
        have b1 := lv_bd hLm.out hn (i := c) (by omega)
        have b2 := lv_bd hLm.out hn (i := c + 1) hc1
        have hsw := hid (swap_at hc1)
        have htw := hid (two_of_at hc1)
        have hAB := hid (fun (t : Int) (ht : t = nth m c ∨ t = nth m (c + 1)) (w' : World) => abs_spec t w' (by rcases ht with rfl | rfl <;> omega))
        have hab : absI (nth m c) = ((nth m c).natAbs : Int) ∧ absI (nth m (c + 1)) = ((nth m (c + 1)).natAbs : Int) := by unfold absI; constructor <;> split <;> omega
        have hR3 := hid (hR.out)
        clear i2
        generalize hna : nth m c = a at *
        generalize hnb : nth m (c + 1) = b at *
        replace hna := hid hna
        replace hnb := hid hnb
        have hwr := Go.IntWalk.i64_in ((a.natAbs : Int) - (b.natAbs : Int)) (by omega)
        have hAB2 := hid (fun (t : Int) (ht : t = a ∨ t = b) (w' : World) => (by have := hAB.out t ht w'; have e : absI t = (t.natAbs : Int) := (by unfold absI; split <;> omega); rwa [e] at this : Calls Try.prog 117 #[.int .i64 t] w' fun e w'' => e = .returned (.int .i64 (t.natAbs : Int)) ∧ w' = w''))
        clear hab hAB
        have hwr2 := Go.IntWalk.i64_in ((c : Int) + 1) (by omega)
        cases e1 : inB ((a.natAbs : Int) - (b.natAbs : Int)) (-1) 1 with
        | true =>
          have hI := hid (fun (w' : World) => by have := in_spec ((a.natAbs : Int) - (b.natAbs : Int)) (-1) 1 w'; rw [e1] at this; exact this)
          replace ho4 := hid ho4
          replace hS4 := hid hS4
          go_wp2_with fail
          go_quiet ((first | (go_at_call 98; exact quietS (hI.out _)) | (go_at_call 117; exact quietS (hAB2.out _ (by first | exact .inl rfl | exact .inr rfl) _))))
          have hq := below_drewN (Below.refl w4.heap.size w4) nq
          have hSq := ((hS4.out.next hq).more (k' := k + 2 + 6 * (7 - (x - 1).toNat)) (by omega))
          have hGq := (hG5.out.trans (GrG.ofBelow g hq))
          have hoq := (ho4.out.below hq)
          clear hq hI hAB2
          generalize w4.drewN nq = wq at *
          replace hSq := hid hSq
          replace hGq := hid hGq
          replace hoq := hid hoq
          go_wp2_with fail
          go_roundw
          case rel => exact ⟨x - 1, m, by omega, by omega, by go_num, hoq.out, hml, hR.out, hSq.out, hGq.out⟩
          case measure => simp [intOf] <;> omega
        | false =>
          have hj : a.natAbs + 2 ≤ b.natAbs ∨ b.natAbs + 2 ≤ a.natAbs := by simp [inB] at e1; omega
          have hI := hid (fun (w' : World) => by have := in_spec ((a.natAbs : Int) - (b.natAbs : Int)) (-1) 1 w'; rw [e1] at this; exact this)
          replace ho4 := hid ho4
          replace hS4 := hid hS4
          go_wp2_with fail
          go_quiet ((first | (go_at_call 98; exact quietS (hI.out _)) | (go_at_call 117; exact quietS (hAB2.out _ (by first | exact .inl rfl | exact .inr rfl) _))))
          have hq := below_drewN (Below.refl w4.heap.size w4) nq
          have hSq := ((hS4.out.next hq).more (k' := k + 2 + 6 * (7 - (x - 1).toNat)) (by omega))
          have hGq := (hG5.out.trans (GrG.ofBelow g hq))
          have hoq := (ho4.out.below hq)
          clear hq hI hAB2
          generalize w4.drewN nq = wq at *
          have x1 : wq.cell? (adr u7 c) = some (.int .i64 a) := by have := hoq.reads.cell c _ (ints_at (l := m) (by omega)); rwa [hna.out] at this
          have x2 : wq.cell? (adr u7 (c + 1)) = some (.int .i64 b) := by have := hoq.reads.cell (c + 1) _ (ints_at (l := m) hc1); rwa [hnb.out] at this
          have fa := hoq.frozen (i := c) (by rw [length_ints]; omega)
          have aa := hoq.adr_blk (i := c) (by rw [length_ints]; omega)
          have ab := hoq.adr_blk (i := c + 1) (by rw [length_ints]; omega)
          have hne := hoq.adr_ne (i := c) (j := c + 1) (by rw [length_ints]; omega) (by omega)
          have hb1 := hoq.set (i := c) (by rw [length_ints]; omega) (.int .i64 b)
          have fb := hb1.frozen (i := c + 1) (by simp; omega)
          have hst := hb1.set (i := c + 1) (by simp; omega) (.int .i64 a)
          rw [ints_set, ints_set] at hst
          have hgr : wq.grownBy ((wq.setCell (adr u7 c) (.int .i64 b)).setCell (adr u7 (c + 1)) (.int .i64 a)) (blk u7) := grown_set (grown_set (grown_of_below (Below.refl _ _) _) aa.1 _) ab.1 _
          have hSF := hid (hSq.grown hgr fun q hq => by have := (hoq.blk_lt hq).1; omega)
          have hGF := hid (hGq.grown hgr fun q hq => (hoq.blk_lt hq).1)
          have hOF := hid hst
          have hrel := hid (show Rel1 n m ((m.set c b).set (c + 1) a) from by have := Rel1.comm (n := n) (m.take c) (m.drop (c + 2)) a b hj; rw [← htw.out] at this; rw [hsw.out]; exact this)
          clear hSq hGq hst hb1 hgr hoq c1 c2
          go_wp2_with fail
          go_roundw
          case rel => exact ⟨x - 1, _, by omega, by omega, by go_num, hOF.out, by simpa using hml, Rels.step hR.out hrel.out, hSF.out, hGF.out⟩
          case measure => simp [intOf] <;> omega
    case neg =>
    have s1f : (s == 1) = false := by rw [beq_eq_false_iff_ne]; exact s1
    by_cases hc2 : c + 2 < m.length
    case neg =>
      have hcc : ¬ ((c : Int) + 2 < m.length) := by omega
      have hwr3 := Go.IntWalk.i64_in ((c : Int) + 2) (by omega)
      have hcd : decide ((c : Int) + 2 < (m.length : Int)) = false := decide_eq_false hcc
      replace ho4 := hid ho4
      replace hS4 := hid hS4
      go_wp2_with fail
      go_quiet (fail)
      have hq := below_drewN (Below.refl w4.heap.size w4) nq
      have hSq := ((hS4.out.next hq).more (k' := k + 2 + 6 * (7 - (x - 1).toNat)) (by omega))
      have hGq := (hG5.out.trans (GrG.ofBelow g hq))
      have hoq := (ho4.out.below hq)
      clear hq
      generalize w4.drewN nq = wq at *
      replace hSq := hid hSq
      replace hGq := hid hGq
      replace hoq := hid hoq
      go_wp2_with fail
      go_roundw
      case rel => exact ⟨x - 1, m, by omega, by omega, by go_num, hoq.out, hml, hR.out, hSq.out, hGq.out⟩
      case measure => simp [intOf] <;> omega
    case pos =>
    have hcc : (c : Int) + 2 < m.length := by omega
    have hwr3 := Go.IntWalk.i64_in ((c : Int) + 2) (by omega)
    have hwr2 := Go.IntWalk.i64_in ((c : Int) + 1) (by omega)
    have i1 := hidx.out c (by omega)
    have i2 : ∀ w', (Instr.indexAt 32 u7 (.int .i64 ((c : Int) + 1))).run Try.prog w' = .ok (.pointer (some (adr u7 (c + 1)))) w' := hidx.out (c + 1) (by omega)
    have i3 : ∀ w', (Instr.indexAt 32 u7 (.int .i64 ((c : Int) + 2))).run Try.prog w' = .ok (.pointer (some (adr u7 (c + 2)))) w' := hidx.out (c + 2) hc2
    have c1 := hcel.out c (by omega) w4 (Below.refl _ _)
    have c2 := hcel.out (c + 1) (by omega) w4 (Below.refl _ _)
    have c3 := hcel.out (c + 2) hc2 w4 (Below.refl _ _)
    have b1 := lv_bd hLm.out hn (i := c) (by omega)
    have b2 := lv_bd hLm.out hn (i := c + 1) (by omega)
    have htw := hid (three_of_at hc2)
    generalize hna : nth m c = a at *
    generalize hnb : nth m (c + 1) = b at *
    generalize hnd : nth m (c + 2) = d at *
    replace hna := hid hna
    replace hnb := hid hnb
    replace hnd := hid hnd
    have hmb := mul_bd b1.2.1 b1.2.2 b2.2.1 b2.2.2
    have hwm := Go.IntWalk.i64_in (a * b) (by omega)
    have hwd := Go.IntWalk.i64_in (a - b) (by omega)
    have hAb := hid (fun (w' : World) => abs_spec (a - b) w' (by omega))
    by_cases p2 : a = d
    case neg =>
      clear hAb
      have p2f : (a == d) = false := by rw [beq_eq_false_iff_ne]; exact p2
      replace ho4 := hid ho4
      replace hS4 := hid hS4
      go_wp2_with fail
      go_quiet ((go_at_call 117; exact quietS (hAb.out _)))
      have hq := below_drewN (Below.refl w4.heap.size w4) nq
      have hSq := ((hS4.out.next hq).more (k' := k + 2 + 6 * (7 - (x - 1).toNat)) (by omega))
      have hGq := (hG5.out.trans (GrG.ofBelow g hq))
      have hoq := (ho4.out.below hq)
      clear hq
      generalize w4.drewN nq = wq at *
      replace hSq := hid hSq
      replace hGq := hid hGq
      replace hoq := hid hoq
      go_wp2_with fail
      go_roundw
      case rel => exact ⟨x - 1, m, by omega, by omega, by go_num, hoq.out, hml, hR.out, hSq.out, hGq.out⟩
      case measure => simp [intOf] <;> omega
    case pos =>
    subst p2
    have p2t : (a == a) = true := by simp
    by_cases p3 : 0 < a * b
    case neg =>
      clear hAb
      have p3f : decide (0 < a * b) = false := decide_eq_false p3
      replace ho4 := hid ho4
      replace hS4 := hid hS4
      go_wp2_with fail
      go_quiet ((go_at_call 117; exact quietS (hAb.out _)))
      have hq := below_drewN (Below.refl w4.heap.size w4) nq
      have hSq := ((hS4.out.next hq).more (k' := k + 2 + 6 * (7 - (x - 1).toNat)) (by omega))
      have hGq := (hG5.out.trans (GrG.ofBelow g hq))
      have hoq := (ho4.out.below hq)
      clear hq
      generalize w4.drewN nq = wq at *
      replace hSq := hid hSq
      replace hGq := hid hGq
      replace hoq := hid hoq
      go_wp2_with fail
      go_roundw
      case rel => exact ⟨x - 1, m, by omega, by omega, by go_num, hoq.out, hml, hR.out, hSq.out, hGq.out⟩
      case measure => simp [intOf] <;> omega
    case pos =>
    by_cases p4 : absI (a - b) = 1
    case neg =>
      have hAbx := hAb
      have p4f : (absI (a - b) == 1) = false := by rw [beq_eq_false_iff_ne]; exact p4
      replace ho4 := hid ho4
      replace hS4 := hid hS4
      go_wp2_with fail
      go_quiet ((go_at_call 117; exact quietS (hAb.out _)))
      have hq := below_drewN (Below.refl w4.heap.size w4) nq
      have hSq := ((hS4.out.next hq).more (k' := k + 2 + 6 * (7 - (x - 1).toNat)) (by omega))
      have hGq := (hG5.out.trans (GrG.ofBelow g hq))
      have hoq := (ho4.out.below hq)
      clear hq
      generalize w4.drewN nq = wq at *
      replace hSq := hid hSq
      replace hGq := hid hGq
      replace hoq := hid hoq
      go_wp2_with fail
      go_roundw
      case rel => exact ⟨x - 1, m, by omega, by omega, by go_num, hoq.out, hml, hR.out, hSq.out, hGq.out⟩
      case measure => simp [intOf] <;> omega
    case pos =>
      rw [p4] at hAb
      have hj : a + 1 = b ∨ b + 1 = a := by unfold absI at p4; split at p4 <;> omega
      have hsw := hid (swap3_at (a := a) (b := b) hc2)
      have hAbx := hAb
      replace ho4 := hid ho4
      replace hS4 := hid hS4
      go_wp2_with fail
      go_quiet ((go_at_call 117; exact quietS (hAb.out _)))
      have hq := below_drewN (Below.refl w4.heap.size w4) nq
      have hSq := ((hS4.out.next hq).more (k' := k + 2 + 6 * (7 - (x - 1).toNat)) (by omega))
      have hGq := (hG5.out.trans (GrG.ofBelow g hq))
      have hoq := (ho4.out.below hq)
      clear hq
      generalize w4.drewN nq = wq at *
      have x1 : wq.cell? (adr u7 c) = some (.int .i64 a) := by have := hoq.reads.cell c _ (ints_at (l := m) (by omega)); rwa [hna.out] at this
      have x2 : wq.cell? (adr u7 (c + 1)) = some (.int .i64 b) := by have := hoq.reads.cell (c + 1) _ (ints_at (l := m) (by omega)); rwa [hnb.out] at this
      have fa := hoq.frozen (i := c) (by rw [length_ints]; omega)
      have aa := hoq.adr_blk (i := c) (by rw [length_ints]; omega)
      have ab := hoq.adr_blk (i := c + 1) (by rw [length_ints]; omega)
      have ac := hoq.adr_blk (i := c + 2) (by rw [length_ints]; omega)
      have n12 := hoq.adr_ne (i := c) (j := c + 1) (by rw [length_ints]; omega) (by omega)
      have n21 := hoq.adr_ne (i := c + 1) (j := c) (by rw [length_ints]; omega) (by omega)
      have n13 := hoq.adr_ne (i := c) (j := c + 2) (by rw [length_ints]; omega) (by omega)
      have n31 := hoq.adr_ne (i := c + 2) (j := c) (by rw [length_ints]; omega) (by omega)
      have n23 := hoq.adr_ne (i := c + 1) (j := c + 2) (by rw [length_ints]; omega) (by omega)
      have n32 := hoq.adr_ne (i := c + 2) (j := c + 1) (by rw [length_ints]; omega) (by omega)
      have x4 : wq.cell? (adr u7 (c + 2)) = some (.int .i64 a) := by have := hoq.reads.cell (c + 2) _ (ints_at (l := m) hc2); rwa [hnd.out] at this
      have hb1 := hoq.set (i := c) (by rw [length_ints]; omega) (.int .i64 b)
      have fb := hb1.frozen (i := c + 1) (by simp; omega)
      have hb2 := hb1.set (i := c + 1) (by simp; omega) (.int .i64 a)
      have fc := hb2.frozen (i := c + 2) (by simp; omega)
      have hst := hb2.set (i := c + 2) (by simp; omega) (.int .i64 b)
      rw [ints_set, ints_set] at hb2
      have x3 := hb2.reads.cell c _ (ints_at (by simp; omega))
      have e3 : nth ((m.set c b).set (c + 1) a) c = b := by rw [nth_set' (by simp; omega), if_neg (by omega), nth_set' (by omega), if_pos rfl]
      rw [e3] at x3
      rw [ints_set, ints_set, ints_set] at hst
      have hgr : wq.grownBy (((wq.setCell (adr u7 c) (.int .i64 b)).setCell (adr u7 (c + 1)) (.int .i64 a)).setCell (adr u7 (c + 2)) (.int .i64 b)) (blk u7) := grown_set (grown_set (grown_set (grown_of_below (Below.refl _ _) _) aa.1 _) ab.1 _) ac.1 _
      have hSF := hid (hSq.grown hgr fun q hq => by have := (hoq.blk_lt hq).1; omega)
      have hGF := hid (hGq.grown hgr fun q hq => (hoq.blk_lt hq).1)
      have hOF := hid hst
      have hrel := hid (show Rel1 n m (((m.set c b).set (c + 1) a).set (c + 2) b) from by have := Rel1.braid (n := n) (m.take c) (m.drop (c + 3)) a b p3 hj; rw [← htw.out] at this; rw [hsw.out]; exact this)
      clear hSq hGq hst hb1 hb2 hgr hoq c1 c2 c3 e3
      go_wp2_with fail
      go_roundw
      case rel => exact ⟨x - 1, _, by omega, by omega, by go_num, hOF.out, by simpa using hml, Rels.step hR.out hrel.out, hSF.out, hGF.out⟩
      case measure => simp [intOf] <;> omega


end Go.Proofs.Ytmeccemnmkobbaa

namespace Go.Proofs.Ytmeccemnmkobbaa
open Go.RowKit
open Pm

theorem lv_of {n : Nat} {l : List Int} (h : ∀ i, i < l.length → nth l i ≠ 0 ∧ 1 - (n : Int) ≤ nth l i ∧ nth l i ≤ n - 1) : ∀ k ∈ l, Lv n k := by
  intro k hk
  obtain ⟨i, hi, rfl⟩ := List.mem_iff_getElem.1 hk
  have := h i hi
  have e : nth l i = l[i] := by simp [nth, hi]
  rw [e] at this
  exact ⟨this.1, by omega⟩
theorem alloc_set2 (w : World) (a b c d : Value) (t : TypeId) : ((w.alloc (.cells #[a, b] t)).setCell ⟨w.heap.size, 0, none⟩ c).setCell ⟨w.heap.size, 1, none⟩ d = w.alloc (.cells #[c, d] t) := by
  simp only [World.setCell, World.alloc]
  congr 1
  apply Array.ext_getElem?
  intro i
  rw [Array.getElem?_modify, Array.getElem?_modify]
  by_cases h : w.heap.size = i
  · subst h
    simp
  · have h' : ¬ i = w.heap.size := fun e => h e.symm
    simp [h, h', Array.getElem?_push]

/-- what stands in memory while the second word is changed: both results' places, the first braid in block x, the second in block g -/
structure EqS (w wE : World) (xb g n : Nat) (uv vv : Value) (l m : List Int) (cv : Value) (cs : List Int) (k : Nat) : Prop where
  p : Bx wE w.heap.size [.int .i64 0, .slice none 0 0]
  q : Bx wE (w.heap.size + 1) [.int .i64 0, .slice none 0 0]
  x : Bx wE xb [.int .i64 n, uv]
  b : Bx wE g [.int .i64 n, vv]
  u : Own wE (w.heap.size + 3) 2 uv (ints l)
  v : Own wE (w.heap.size + 3) 2 vv (ints m)
  un : blk uv ≠ some g
  vn : blk vv ≠ some g
  xg : w.heap.size + 3 ≤ xb ∧ xb < g
  s : Src wE (w.heap.size + 1 + 1) cv cs k
  bl : Below w.heap.size w wE
theorem EqS.step {w wE w' : World} {x g n : Nat} {uv vv v' : Value} {l m m' : List Int} {cv : Value} {cs : List Int} {k k' : Nat} (h : EqS w wE x g n uv vv l m cv cs k) (hg : GrG wE w' (w.heap.size + 1 + 1)) (hv : Own w' wE.heap.size 2 v' (ints m')) (hs : Src w' (w.heap.size + 1 + 1) cv cs k') :
    EqS w (w'.setCell ⟨g, 1, none⟩ v') x g n uv v' l m' cv cs k' := by
  have hgl := h.b.lt
  have hx := h.xg
  have hz := h.bl.size
  have hz' := hg.size
  have hvn : blk v' ≠ some g := fun e => by have := (hv.blk_lt e).1; omega
  have hS := hs.grown (grown_cell w' g 1 v') (fun q hq => by injection hq with hq; omega)
  refine ⟨(h.p.grG hg (by omega)).other (a := ⟨g, 1, none⟩) (by simp; omega) _, (h.q.grG hg (by omega)).other (a := ⟨g, 1, none⟩) (by simp; omega) _, (h.x.grG hg (by omega)).other (a := ⟨g, 1, none⟩) (by simp; omega) _, (h.b.grG hg (by omega)).set 1 v', ?_, ?_, h.un, hvn, h.xg, hS, ?_⟩
  · exact (hg.own h.u (by omega)).other (a := ⟨g, 1, none⟩) h.un v'
  · exact (hv.mono (by omega)).other (a := ⟨g, 1, none⟩) hvn v'
  · have hb : Below w.heap.size w w' := ⟨hg.os.trans h.bl.os, hg.tape.trans h.bl.tape, hg.output.trans h.bl.output, Nat.le_trans hz hz', fun k hk => (hg.block k (by omega) (by omega)).trans (h.bl.block k hk)⟩
    exact hb.setCell (p := ⟨g, 1, none⟩) (by show w.heap.size ≤ g; omega) v'
theorem EqS.first {w w4 : World} {x n g : Nat} {uv v : Value} {l : List Int} {cv : Value} {cs : List Int} {k : Nat} (hx : w.heap.size + 3 ≤ x ∧ x < g) (hu : Own w4 (w.heap.size + 3) 2 uv (ints l)) (hP : Bx w4 w.heap.size [.int .i64 0, .slice none 0 0]) (hQ : Bx w4 (w.heap.size + 1) [.int .i64 0, .slice none 0 0])
    (hX : Bx w4 x [.int .i64 n, uv]) (hB : Bx w4 g [.int .i64 0, .slice none 0 0]) (hS : Src w4 (w.heap.size + 1 + 1) cv cs k) (hb : Below w.heap.size w w4) (hv : Own w4 (w.heap.size + 3) 2 v (ints l)) (hun : blk uv ≠ some g) (hvn : blk v ≠ some g) :
    EqS w ((w4.setCell ⟨g, 0, none⟩ (.int .i64 n)).setCell ⟨g, 1, none⟩ v) x g n uv v l l cv cs k := by
  have hS1 := hS.grown (grown_cell w4 g 0 (.int .i64 n)) (fun q hq => by injection hq with hq; omega)
  have hS2 := hS1.grown (grown_cell _ g 1 v) (fun q hq => by injection hq with hq; omega)
  refine ⟨(hP.other (a := ⟨g, 0, none⟩) (by simp; omega) _).other (a := ⟨g, 1, none⟩) (by simp; omega) _, (hQ.other (a := ⟨g, 0, none⟩) (by simp; omega) _).other (a := ⟨g, 1, none⟩) (by simp; omega) _, (hX.other (a := ⟨g, 0, none⟩) (by simp; omega) _).other (a := ⟨g, 1, none⟩) (by simp; omega) _, (hB.set 0 _).set 1 v, ?_, ?_, hun, hvn, hx, hS2, ?_⟩
  · exact (hu.other (a := ⟨g, 0, none⟩) hun _).other (a := ⟨g, 1, none⟩) hun _
  · exact (hv.other (a := ⟨g, 0, none⟩) hvn _).other (a := ⟨g, 1, none⟩) hvn _
  · exact (hb.setCell (p := ⟨g, 0, none⟩) (by show w.heap.size ≤ g; omega) _).setCell (p := ⟨g, 1, none⟩) (by show w.heap.size ≤ g; omega) _
theorem eqs_all {w w2 w3 : World} {n : Nat} {uv : Value} {l : List Int} {cv : Value} {cs : List Int} {k B1 : Nat} {w4 : World} (hB1 : w.heap.size + 3 ≤ B1) (hu2 : Own w2 B1 2 uv (ints l)) (hk3 : ∀ i, i < w2.heap.size → w3.heap[i]? = w2.heap[i]?)
    (hP : Bx w3 w.heap.size [.int .i64 0, .slice none 0 0]) (hQ : Bx w3 (w.heap.size + 1) [.int .i64 0, .slice none 0 0]) (hX : Bx w3 w2.heap.size [.int .i64 n, uv]) (hS : Src w3 (w.heap.size + 1 + 1) cv cs k) (hb : Below w.heap.size w w3) (h34 : Below w3.heap.size w3 w4) :
    Own w4 (w.heap.size + 3) 2 uv (ints l) ∧ Bx w4 w.heap.size [.int .i64 0, .slice none 0 0] ∧ Bx w4 (w.heap.size + 1) [.int .i64 0, .slice none 0 0] ∧ Bx w4 w2.heap.size [.int .i64 n, uv] ∧ Src w4 (w.heap.size + 1 + 1) cv cs k ∧ Below w.heap.size w w4 ∧ (∀ g, w2.heap.size ≤ g → blk uv ≠ some g) :=
  ⟨((hu2.keep fun i hi hl => hk3 i hl).below h34).mono hB1, hP.below h34, hQ.below h34, hX.below h34, hS.next h34, hb.trans (h34.mono hb.size), fun g hg e => by have := (hu2.blk_lt e).2; omega⟩

set_option maxRecDepth 100000 in
set_option maxHeartbeats 16000000 in
theorem e8equal (cv : Value) (cs : List Int) (w : World) (h : Reads w cv (bytes cs)) (hr : ∀ i, i < cs.length → 0 ≤ nth cs i ∧ nth cs i ≤ 255) (hs : cs.length ≤ 1048576) :
    Calls Try.prog 41 #[cv] w fun e w' => ∃ (n : Nat) (u v : Value) (l m : List Int), e = .returned (.tuple #[.agg #[.int .i64 n, u], .agg #[.int .i64 n, v]]) ∧ n ≤ 5 ∧ Own w' w.heap.size 2 u (ints l) ∧ Own w' w.heap.size 2 v (ints m) ∧ Wrd n 8 l ∧ m.length ≤ 15 ∧ Rels n l m ∧ Below w.heap.size w w' := by
  have hP0 := (Bx.new w #[.int .i64 0, .slice none 0 0] 35).alloc (.cells #[.int .i64 0, .slice none 0 0] 35)
  have hQ0 := Bx.new (w.alloc (.cells #[.int .i64 0, .slice none 0 0] 35)) #[.int .i64 0, .slice none 0 0] 35
  have hb0 : Below w.heap.size w ((w.alloc (.cells #[.int .i64 0, .slice none 0 0] 35)).alloc (.cells #[.int .i64 0, .slice none 0 0] 35)) := ((Below.refl _ _).alloc (Nat.le_refl _) _).alloc (by simp) _
  have hz0 : ((w.alloc (.cells #[.int .i64 0, .slice none 0 0] 35)).alloc (.cells #[.int .i64 0, .slice none 0 0] 35)).heap.size = w.heap.size + 1 + 1 := by simp
  simp only [World.size_alloc] at hQ0
  have hR0 := h.below hb0
  go_enter Try.func41, Try.ntmps41
  go_wp2_with fail
  generalize ((w.alloc (.cells #[.int .i64 0, .slice none 0 0] 35)).alloc (.cells #[.int .i64 0, .slice none 0 0] 35)) = w0 at *
  clear h
  refine (from_src cv cs w0 hR0 hr hs).mono ?_
  rintro e w1 ⟨rfl, hS1, hb1⟩
  have hz1 := hb1.size
  have hP1 := hP0.below hb1
  have hQ1 := hQ0.below hb1
  have hgl : w0.heap.size < w1.heap.size := by obtain ⟨⟨a, s, h1, h2, h3, hX⟩, -⟩ := hS1; exact hX.lt
  rw [hz0] at hS1 hgl
  clear hP0 hQ0 hR0
  go_wp2_with fail
  refine (draw_src (w.heap.size + 1 + 1) cv cs 0 w1 hS1 (by omega) hgl).mono ?_
  rintro e w2 ⟨n, u, l, rfl, hn, hu, hW, hS2, hG2⟩
  have hz2 := hG2.size
  obtain ⟨ua, un, uc, rfl⟩ := own_lit' hu
  have hP2 := (hP1.grG hG2 (by omega)).alloc (.cells #[.int .i64 n, .slice ua un uc] 35)
  have hQ2 := (hQ1.grG hG2 (by omega)).alloc (.cells #[.int .i64 n, .slice ua un uc] 35)
  have hX2 := Bx.new w2 #[.int .i64 n, .slice ua un uc] 35
  have hA2 := (Below.refl w2.heap.size w2).alloc (Nat.le_refl _) (.cells #[.int .i64 n, .slice ua un uc] 35)
  have hu2 := hu.below hA2
  have hu3 := hid hu
  have hk3 := hid (fun (i : Nat) (hi : i < w2.heap.size) => heap_alloc_old w2 (.cells #[.int .i64 n, .slice ua un uc] 35) hi)
  have hS2' := hS2.next hA2
  have hbA := (((hb0.trans (hb1.mono (by omega))).trans ((hG2.below (by omega)).mono (by omega))).trans (hA2.mono (by omega)))
  have hzA : (w2.alloc (.cells #[.int .i64 n, .slice ua un uc] 35)).heap.size = w2.heap.size + 1 := by simp
  clear hP1 hQ1 hS1 hS2 hu hA2 hG2 hb1 hb0
  replace hu2 := hid hu2
  replace hbA := hid hbA
  replace hW := hid hW
  go_wp2_with fail
  generalize w2.alloc (.cells #[.int .i64 n, .slice ua un uc] 35) = w3 at *
  replace hzA := hid hzA
  have hP3 := hid hP2
  have hQ3 := hid hQ2
  have hX3 := hid hX2
  have hS3 := hid hS2'
  have c0 := hX2.cell 0 rfl
  have c1 := hX2.cell 1 rfl
  have d0 := (hX2.alloc (.cells #[.int .i64 0, .slice none 0 0] 35)).cell 0 rfl
  have d1 := (hX2.alloc (.cells #[.int .i64 0, .slice none 0 0] 35)).cell 1 rfl
  have hC := hid (fun (w' : World) (hw : Below w3.heap.size w3 w') => own_copy (.slice ua un uc) l w' (hu2.out.reads.below hw) (by have := hW.out.1; omega))
  have hbD := hid ((Below.refl w3.heap.size w3).drew)
  have hbB := hid ((Below.refl w3.heap.size w3).drew.alloc (Nat.le_refl _) (.cells #[.int .i64 0, .slice none 0 0] 35))
  have hbC := hid (((Below.refl w3.heap.size w3).alloc (Nat.le_refl _) (.cells #[.int .i64 0, .slice none 0 0] 35)).drew)
  clear hP2 hQ2 hX2 hS2'
  go_wp2_with fail
  go_region_law (refine step_call (hC.out _ (by first | exact hbD.out | exact hbB.out | exact hbC.out)) (fun _ => by kernel_rfl) rfl (.tmp 15) rfl (by simp [Act.eval]) ?_; rintro e w4 ⟨v, rfl, hv, hs4⟩; refine ⟨_, rfl, ?_⟩; obtain ⟨va, vn, vc, rfl⟩ := own_lit' hv; have hX4 : Bx w4 w2.heap.size _ := (by first | exact (hX3.out.drew).below hs4 | exact ((hX3.out.drew).alloc (.cells #[.int .i64 0, .slice none 0 0] 35)).below hs4 | exact ((hX3.out.alloc (.cells #[.int .i64 0, .slice none 0 0] 35)).drew).below hs4); have x0 := hX4.cell 0 rfl; have x1 := hX4.cell 1 rfl; have y0 := (hX4.alloc (.cells #[.int .i64 0, .slice none 0 0] 35)).cell 0 rfl; have y1 := (hX4.alloc (.cells #[.int .i64 0, .slice none 0 0] 35)).cell 1 rfl; (first | (have hB4 : Bx w4 w3.heap.size [.int .i64 0, .slice none 0 0] := (by first | exact (Bx.new w3.drew #[.int .i64 0, .slice none 0 0] 35).below hs4 | exact (Bx.new w3 #[.int .i64 0, .slice none 0 0] 35).drew.below hs4); have e0 := hB4.cell 0 rfl; have e1 := hB4.cell 1 rfl; have f0 := hB4.frozen 0; have f1 := hB4.frozen 1) | skip); clear hX4)
  all_goals
    have hz4 := hs4.size
    clear c0 c1 d0 d1 x0 x1 y0 y1
    first
      | (have h34 : Below w3.heap.size w3 (w4.alloc (.cells #[.int .i64 n, .slice va vn vc] 35)) := (hbD.out.trans hs4).alloc (by simpa using hz4) _
         obtain ⟨a1, a2, a3, a4, a5, a6, a7⟩ := eqs_all (by omega) hu3.out hk3.out hP3.out hQ3.out hX3.out hS3.out hbA.out h34
         have hzE : w.heap.size + 3 ≤ w3.heap.size := by have := hzA.out; omega
         have hE : EqS w (w4.alloc (.cells #[.int .i64 n, .slice va vn vc] 35)) w2.heap.size w4.heap.size n (.slice ua un uc) (.slice va vn vc) l l cv cs (0 + 44) := ⟨a2, a3, a4, Bx.new w4 _ _, a1, own_alloc (hv.mono (by simp; omega)) _, a7 _ (by have := hzA.out; simp at hz4; omega), (fun e => by have := (hv.blk_lt e).2; omega), ⟨by omega, by have := hzA.out; simp at hz4; omega⟩, a5, a6⟩
         try rw [alloc_set2]
         generalize w4.alloc (.cells #[.int .i64 n, .slice va vn vc] 35) = wE at *
         generalize w4.heap.size = g at *)
      | (have h34 : Below w3.heap.size w3 w4 := by first | exact hbB.out.trans (hs4.mono (by simp)) | exact hbC.out.trans (hs4.mono (by simp))
         obtain ⟨a1, a2, a3, a4, a5, a6, a7⟩ := eqs_all (by omega) hu3.out hk3.out hP3.out hQ3.out hX3.out hS3.out hbA.out h34
         have hzE : w.heap.size + 3 ≤ w3.heap.size := by have := hzA.out; omega
         have hE := EqS.first (g := w3.heap.size) ⟨by omega, by have := hzA.out; omega⟩ a1 a2 a3 a4 hB4 a5 a6 (hv.mono (by simp; omega)) (a7 _ (by have := hzA.out; omega)) (fun e => by have := (hv.blk_lt e).1; simp at this; omega)
         clear e0 e1 f0 f1
         generalize (w4.setCell ⟨w3.heap.size, 0, none⟩ (.int .i64 n)).setCell ⟨w3.heap.size, 1, none⟩ (.slice va vn vc) = wE at *
         generalize w3.heap.size = g at *)
    clear a1 a2 a3 a4 a5 a6 a7 h34 hzE hbD hbB hbC hC hP3 hQ3 hX3 hS3 hbA hu2 hu3 hk3 hs4 hz4 hv hzA
    generalize w2.heap.size = x at *
    replace hE := hid hE
    go_wp2_with fail
    go_loopw [7] (fun i wr => ∃ (j : Nat) (m : List Int) (va : Option Addr) (vn vc : Nat), j ≤ 3 ∧ i = .int .i64 j ∧ m.length ≤ 15 ∧ Rels n l m ∧ EqS w wr x g n (.slice ua un uc) (.slice va vn vc) l m cv cs (44 + 60 * j)) (fun i _ => 3 - (intOf i).toNat)
    case atStart => exact ⟨0, l, va, vn, vc, by omega, rfl, by have := hW.out.1; omega, Rels.refl l, hE.out⟩
    case round =>
      clear hE
      obtain ⟨j, m, va, vn, vc, hj, rfl, hml, hRl, hE⟩ := hrel
      have c0 := hE.x.cell 0 rfl
      have c1 := hE.x.cell 1 rfl
      have d0 := hE.b.cell 0 rfl
      have d1 := hE.b.cell 1 rfl
      have f1 := hE.b.frozen 1
      replace hRl := hid hRl
      replace hE := hid hE
      by_cases hgo : j < 3 ∧ 1 < n
      · obtain ⟨hj3, hn1⟩ := hgo
        go_wp2_with fail
        refine (relate_src (w.heap.size + 1 + 1) cv (.slice va vn vc) cs m (44 + 60 * j) n wr hE.out.s hE.out.v.reads (by omega) (by omega) (by omega) (by have := hE.out.xg; have := hE.out.b.lt; omega) hml (hRl.out.lv (lv_of hW.out.2))).mono ?_
        rintro e w' ⟨v', m', rfl, hv', hm', hR', hS', hG'⟩
        obtain ⟨va', vn', vc', rfl⟩ := own_lit' hv'
        have hE' := hid (hE.out.step hG' hv' hS')
        have hb' := hE.out.b.grG hG' (by have := hE.out.xg; omega)
        have e1 := hb'.cell 1 rfl
        have f1' := hb'.frozen 1
        clear hG' hv' hS' hb' c0 c1 d0 d1 f1
        replace hR' := hid (hRl.out.trans hR')
        go_wp2_with fail
        go_roundw
        case rel => exact ⟨j + 1, m', va', vn', vc', by omega, by go_num, hm', hR'.out, hE'.out⟩
        case measure => simp [intOf] <;> omega
      · have p0 := hE.out.p.cell 0 rfl
        have p1 := hE.out.p.cell 1 rfl
        have q0 := hE.out.q.cell 0 rfl
        have q1 := hE.out.q.cell 1 rfl
        have fp0 := hE.out.p.frozen 0
        have fp1 := hE.out.p.frozen 1
        have fq0 := hE.out.q.frozen 0
        have fq1 := hE.out.q.frozen 1
        have hx := hE.out.xg
        by_cases hj3 : j < 3
        all_goals
          try have hn1 : ¬ (1 : Int) < n := by omega
          go_wp2_with fail
          go_region
          have hP4 := hE.out.p
          have hQ4 := hE.out.q
          have hPF := hid ((((hP4.set 0 (.int .i64 n)).set 1 (.slice ua un uc)).other (a := ⟨w.heap.size + 1, 0, none⟩) (by simp) (.int .i64 n)).other (a := ⟨w.heap.size + 1, 1, none⟩) (by simp) (.slice va vn vc))
          have hQF := hid ((((hQ4.other (a := ⟨w.heap.size, 0, none⟩) (by simp) (.int .i64 n)).other (a := ⟨w.heap.size, 1, none⟩) (by simp) (.slice ua un uc)).set 0 (.int .i64 n)).set 1 (.slice va vn vc))
          have huE := hid ((((hE.out.u.set_block (g := w.heap.size) (by omega) 0 (.int .i64 n)).set_block (g := w.heap.size) (by omega) 1 (.slice ua un uc)).set_block (g := w.heap.size + 1) (by omega) 0 (.int .i64 n)).set_block (g := w.heap.size + 1) (by omega) 1 (.slice va vn vc))
          have hvE := hid ((((hE.out.v.set_block (g := w.heap.size) (by omega) 0 (.int .i64 n)).set_block (g := w.heap.size) (by omega) 1 (.slice ua un uc)).set_block (g := w.heap.size + 1) (by omega) 0 (.int .i64 n)).set_block (g := w.heap.size + 1) (by omega) 1 (.slice va vn vc))
          have hbE := hid ((((hE.out.bl.setCell (p := ⟨w.heap.size, 0, none⟩) (Nat.le_refl _) (.int .i64 n)).setCell (p := ⟨w.heap.size, 1, none⟩) (Nat.le_refl _) (.slice ua un uc)).setCell (p := ⟨w.heap.size + 1, 0, none⟩) (by simp) (.int .i64 n)).setCell (p := ⟨w.heap.size + 1, 1, none⟩) (by simp) (.slice va vn vc))
          clear hP4 hQ4 hE c0 c1 d0 d1 f1 p0 p1 q0 q1 fp0 fp1 fq0 fq1
          generalize (((wr.setCell ⟨w.heap.size, 0, none⟩ (.int .i64 n)).setCell ⟨w.heap.size, 1, none⟩ (.slice ua un uc)).setCell ⟨w.heap.size + 1, 0, none⟩ (.int .i64 n)).setCell ⟨w.heap.size + 1, 1, none⟩ (.slice va vn vc) = wF at *
          have y0 := hPF.out.cell 0 rfl
          have y1 := hPF.out.cell 1 rfl
          have y2 := hQF.out.cell 0 rfl
          have y3 := hQF.out.cell 1 rfl
          go_wp2_with fail
          refine bodyPost_ret (v := .tuple #[.agg #[.int .i64 n, .slice ua un uc], .agg #[.int .i64 n, .slice va vn vc]]) (by simp [y0, y1, y2, y3, results, Try.results41, go_sem]) rfl ⟨n, _, _, l, m, rfl, hn, (huE.out.drewN 1).mono (by omega), (hvE.out.drewN 1).mono (by omega), hW.out, hml, hRl.out, hbE.out.drew⟩



end Go.Proofs.Ytmeccemnmkobbaa
