/- Contracts: doubled braids (the program's side). -/
import Derived.Test.YtoomkkeffejcdaaDby
import Derived.Test.YtoomkkeffejcdaaRwa
namespace Go.Proofs.Ytoomkkeffejcdaa
open Go.RowKit
open Pm

set_option maxHeartbeats 1000000 in
theorem szclo (k : Int) (w : World) :
    Calls Try.prog 68 #[.int .i64 k] w fun e w' => e = .returned (.bool (!inB k 0 4)) ∧ w = w' := by
  go_enter Try.func68, Try.ntmps68
  go_wp2_with (go_at_call 69; refine (in_impl _ _ _ _).mono ?_; rintro e w1 ⟨rfl, rfl⟩)
  cases e2 : inB k 0 4 with
  | true =>
    go_wp2_with fail
    go_ret
    exact ⟨rfl, rfl⟩
  | false =>
    go_wp2_with fail
    go_ret
    exact ⟨rfl, rfl⟩

set_option maxHeartbeats 1000000 in
theorem idxSz (v : Value) (l : List Int) (w : World) (h : Reads w v (ints l)) :
    Calls Try.prog 84 #[v, .func (.func 68) #[] #[]] w fun e w' => (∃ q : Int, e = .returned (.int .i64 q) ∧ decide (0 ≤ q) = (List.range l.length).any fun i => !inB (nth l i) 0 4) ∧ w = w' := by
  have hs := h.small
  have hlen := h.len (P := Try.prog) 22 3 ⟨_, sliceI⟩
  simp only [length_ints] at hs hlen
  go_enter Try.func84, Try.ntmps84
  go_wp2_with fail
  go_loop [5, 8] (fun _ i => ∃ k : Nat, k ≤ l.length ∧ i = .int .i64 k ∧ ((List.range k).any fun i => !inB (nth l i) 0 4) = false) (fun _ i => l.length - (intOf i).toNat)
  case atStart => exact ⟨0, by omega, rfl, rfl⟩
  case round =>
    obtain ⟨k, hk, rfl, hok⟩ := hrel
    by_cases hlt : k < l.length
    · have hi := h.idx 22 sliceI sizeI .i64 k (by omega) (by simpa using hlt)
      simp only [Int.toNat_natCast] at hi
      have hc := h.int hlt
      have hC := hid (fun a => szclo a w)
      cases e1 : (!inB (nth l k) 0 4) with
      | true =>
        have hyes := hid (any_yes (p := fun i => !inB (nth l i) 0 4) (m := l.length) hlt e1)
        generalize hx : nth l k = a at *
        have hX := hid hx
        clear hx hok
        go_wp2_with (go_at_call 68; refine (hC.out _).mono ?_; rintro e w1 ⟨rfl, rfl⟩; rw [e1])
        go_ret
        refine ⟨⟨_, rfl, ?_⟩, rfl⟩
        rw [hyes.out]; simp
      | false =>
        have hno := hid (any_no (p := fun i => !inB (nth l i) 0 4) hok e1)
        generalize hx : nth l k = a at *
        have hX := hid hx
        clear hx hok
        go_wp2_with (go_at_call 68; refine (hC.out _).mono ?_; rintro e w1 ⟨rfl, rfl⟩; rw [e1])
        go_round
        case rel => exact ⟨k + 1, by omega, by go_num, hno.out⟩
        case measure => simp [intOf]; omega
    · obtain rfl : k = l.length := by omega
      go_wp2_with fail
      go_ret
      exact ⟨⟨-1, rfl, by first | (rw [hok]; rfl) | (simp)⟩, rfl⟩
theorem any_szs (l : List Int) : ((List.range l.length).any fun i => !inB (nth l i) 0 4) = !szsB l := by
  unfold szsB
  rw [List.not_all_eq_any_not]
set_option maxHeartbeats 1000000 in
theorem contSz (v : Value) (l : List Int) (w : World) (h : Reads w v (ints l)) :
    Calls Try.prog 67 #[v, .func (.func 68) #[] #[]] w fun e w' => e = .returned (.bool (!szsB l)) ∧ w = w' := by
  go_enter Try.func67, Try.ntmps67
  go_wp2_with (go_at_call 84; refine (idxSz v l _ (by assumption)).mono ?_; rintro e w1 ⟨⟨q, rfl, hq⟩, rfl⟩)
  go_ret
  exact ⟨by rw [← any_szs, ← hq]; rfl, rfl⟩


set_option maxHeartbeats 16000000 in
theorem DoubleI (n : Int) (v : Value) (l : List Int) (u : Value) (z : List Int) (w : World) (h : Reads w v (ints l)) (h' : Reads w u (ints z)) :
    Calls Try.prog 42 #[.agg #[.int .i64 n, v], u] w fun e w' => ∃ x, e = .returned (.tuple #[.agg #[.int .i64 (nD n l z), x], .int .i64 (codeD n l z)]) ∧ Own w' w.heap.size 2 x (ints (lD n l z)) ∧ Below w.heap.size w w' := by
  have hs0 := h.small
  have hs' := h'.small
  have hlv0 := h.len (P := Try.prog) 22 3 ⟨_, sliceI⟩
  have hlen := h'.len (P := Try.prog) 22 3 ⟨_, sliceI⟩
  simp only [length_ints] at hlen hs' hlv0 hs0
  have hA0 := Bx.alloc (Bx.new w #[.int .i64 n, v] 27) (.cells #[.int .i64 0, .slice none 0 0] 27)
  have hR0 := Bx.new (w.alloc (.cells #[.int .i64 n, v] 27)) #[.int .i64 0, .slice none 0 0] 27
  have hr0 := reads_alloc (reads_alloc h (.cells #[.int .i64 n, v] 27)) (.cells #[.int .i64 0, .slice none 0 0] 27)
  have hb0 : Below w.heap.size w ((w.alloc (.cells #[.int .i64 n, v] 27)).alloc (.cells #[.int .i64 0, .slice none 0 0] 27)) := ((Below.refl _ _).alloc (Nat.le_refl _) _).alloc (by simp) _
  have A00 := hA0.cell 0 rfl
  have A01 := hA0.cell 1 rfl
  go_enter Try.func42, Try.ntmps42
  go_wp2_with fail
  refine (vb_impl n v l _ hr0).mono ?_
  rintro e w1 ⟨rfl, hs1⟩
  have hb1 := hb0.trans (hs1.mono hb0.size)
  have hA1 := hA0.below hs1
  have hR1 := hR0.below hs1
  have hz1 := hR1.lt
  simp only [World.size_alloc] at hz1 hA1 hR1
  clear hs1 hb0 hA0 hR0 hr0 A00 A01
  have A10 := hA1.cell 0 rfl
  have A11 := hA1.cell 1 rfl
  have R10 := hR1.cell 0 rfl
  have R11 := hR1.cell 1 rfl
  have F10 := hR1.frozen 0
  have F11 := hR1.frozen 1
  have g5 := (hR1.set 0 (.int .i64 0)).set 1 (.slice none 0 0)
  have g50 := g5.cell 0 rfl
  have g51 := g5.cell 1 rfl
  have hbF := hid ((hb1.setCell (p := ⟨w.heap.size + 1, 0, none⟩) (by simp) (.int .i64 0)).setCell (p := ⟨w.heap.size + 1, 1, none⟩) (by simp) (.slice none 0 0))
  clear g5
  cases e1 : okB n l with
  | false =>
    have hcode := hid (codeD_bad (okD_no1 (z := z) e1))
    go_wp2_with fail
    refine bodyPost_ret (v := .tuple #[.agg #[.int .i64 0, .slice none 0 0], .int .i64 1]) (by simp [g50, g51, results, Try.results42, go_sem]) rfl ⟨_, by rw [hcode.out, nD_no hcode.out (by decide)], by rw [lD_no hcode.out (by decide)]; exact own_nilB _ _ _, hbF.out⟩
  | true =>
  obtain ⟨q0, q1, q2, -⟩ := okB_of e1
  by_cases hzn : (z.length : Int) = n
  case neg =>
    have hne : ((z.length : Int) != n) = true := by simpa [bne_iff_ne] using hzn
    have hcode := hid (codeD_bad (okD_no2 (l := l) hzn))
    clear hzn
    go_wp2_with fail
    refine bodyPost_ret (v := .tuple #[.agg #[.int .i64 0, .slice none 0 0], .int .i64 1]) (by simp [g50, g51, results, Try.results42, go_sem]) rfl ⟨_, by rw [hcode.out, nD_no hcode.out (by decide)], by rw [lD_no hcode.out (by decide)]; exact own_nilB _ _ _, hbF.out⟩
  case pos =>
  have hne : ((z.length : Int) != n) = false := by simp [bne, hzn]
  have hok := hid (okD_yes e1 hzn)
  have hlv := hid (show ∀ k ∈ l, Lv z.length k from okB_lv (by rw [hzn]; exact e1))
  have hz12 : z.length ≤ 12 := by omega
  have hzn' := hid hzn
  clear hzn
  go_wp2_with fail
  refine (contSz u z w1 (h'.below hb1)).mono ?_
  rintro e w2 ⟨rfl, rfl⟩
  cases hzs : szsB z with
  | false =>
    have hcode := hid (codeD_rng hok.out hzs)
    go_wp2_with fail
    refine bodyPost_ret (v := .tuple #[.agg #[.int .i64 0, .slice none 0 0], .int .i64 2]) (by simp [g50, g51, results, Try.results42, go_sem]) rfl ⟨_, by rw [hcode.out, nD_no hcode.out (by decide)], by rw [lD_no hcode.out (by decide)]; exact own_nilB _ _ _, hbF.out⟩
  | true =>
  have hZ := hid (szsB_iff.1 hzs)
  replace hzs := hid hzs
  go_wp2_with fail
  refine (sum_impl u z w1 (h'.below hb1) hZ.out (by omega)).mono ?_
  rintro e w2 ⟨rfl, rfl⟩
  have hsz := sum_bd4 hZ.out (k := z.length) (Nat.le_refl _)
  have hsum : sumTo (fun i => nth z i) z.length = sumF z := rfl
  rw [hsum] at hsz
  clear hsum
  obtain ⟨S, hSe⟩ : ∃ S, sumF z = S := ⟨_, rfl⟩
  rw [hSe] at hsz ⊢
  replace hSe := hid hSe
  have hA2 := hA1.alloc (.cells #[.int .i64 S, .slice none 0 0] 27)
  have hR2 := hR1.alloc (.cells #[.int .i64 S, .slice none 0 0] 27)
  have hX2 := Bx.new w1 #[.int .i64 S, .slice none 0 0] 27
  have hb2 := hb1.alloc hb1.size (.cells #[.int .i64 S, .slice none 0 0] 27)
  have hz2 : (w1.alloc (.cells #[.int .i64 S, .slice none 0 0] 27)).heap.size = w1.heap.size + 1 := by simp
  clear g50 g51 hbF A10 A11 R10 R11 F10 F11 hA1 hR1 hne
  replace hb1 := hid hb1
  go_wp2_with fail
  refine (clone_run u z _ (h'.below hb2) (by omega)).mono ?_
  rintro e w3 ⟨p, rfl, hp, hs3⟩
  have hA3 := hA2.below hs3
  have hR3 := hR2.below hs3
  have hX3 := hX2.below hs3
  have hb3 := hid (hb2.trans (hs3.mono hb2.size))
  have hpb := hid (fun g (hg : blk p = some g) => hp.blk_lt hg)
  have hz3 := hs3.size
  rw [hz2] at hz3
  rw [hz2] at hpb
  have hp3 := hid (hp.mono (B' := w1.heap.size + 1) (by omega))
  clear hA2 hR2 hX2 hb2 hs3 hp
  have A30 := hA3.cell 0 rfl
  have A31 := hA3.cell 1 rfl
  replace hA3 := hid hA3
  replace hR3 := hid hR3
  replace hX3 := hid hX3
  go_wp2_with fail
  clear hz2
  go_loopw [9, 10, 33] (fun _ _ i wr => ∃ (k : Nat) (zz d : List Int) (o : Value), k ≤ l.length ∧ i = .int .i64 k ∧ Hid (Szs zz) ∧ zz.length = z.length ∧ Hid (d ++ dwI (l.drop k) zz = dwI l z) ∧ d.length ≤ 16 * k ∧ Bx wr (w.heap.size + 1) [.int .i64 0, .slice none 0 0] ∧ Bx wr w1.heap.size [.int .i64 S, o] ∧ Own wr w3.heap.size 2 o (ints d) ∧ Own wr (w1.heap.size + 1) 2 p (ints zz) ∧ Hid (Below w.heap.size w wr) ∧ Hid (w3.heap.size ≤ wr.heap.size)) (fun _ _ i _ => l.length - (intOf i).toNat)
  case atStart => exact ⟨0, z, [], .slice none 0 0, by omega, rfl, hZ, rfl, hid rfl, by simp, hR3.out, hX3.out, Own.nilv _ _ _, hp3.out, hb3, hid (Nat.le_refl _)⟩
  case round =>
    clear hA3 hR3 hX3 hp3 hb3 A30 A31
    obtain ⟨k, zz, d, o, hk, rfl, hS, hzn, hE, hdl, hR, hX, ho, hown, hb, hzw⟩ := hrel
    by_cases hlt : k < l.length
    case neg =>
      obtain rfl : k = l.length := by omega
      have hd : d = dwI l z := by have := hE.out; rw [List.drop_of_length_le (Nat.le_refl _)] at this; simpa [dwI, dw] using this
      subst hd
      obtain ⟨oa, on, oc, rfl⟩ := ho.form3
      have R0 := hR.cell 0 rfl
      have R1 := hR.cell 1 rfl
      have F0 := hR.frozen 0
      have F1 := hR.frozen 1
      have X0 := hX.cell 0 rfl
      have X1 := hX.cell 1 rfl
      have hlno := ho.reads.len (P := Try.prog) 22 3 ⟨_, sliceI⟩
      rw [length_ints] at hlno
      have g5 := (hR.set 0 (.int .i64 0)).set 1 (.slice none 0 0)
      have g6 := (hR.set 0 (.int .i64 S)).set 1 (.slice oa on oc)
      have g50 := g5.cell 0 rfl
      have g51 := g5.cell 1 rfl
      have g60 := g6.cell 0 rfl
      have g61 := g6.cell 1 rfl
      replace ho := hid ho
      clear g5 g6
      by_cases hS12 : S ≤ 12
      case neg =>
        have h12 : ¬ (S ≤ 12 ∧ (dwI l z).length ≤ 40) := fun e => hS12 e.1
        have hcode := hid (codeD_full hok.out hzs.out (by rw [hSe.out]; exact h12))
        have hgt : (12 : Int) < S := by omega
        clear h12 hS12
        go_wp2_with fail
        refine bodyPost_ret (v := .tuple #[.agg #[.int .i64 0, .slice none 0 0], .int .i64 5]) (by simp [g50, g51, results, Try.results42, go_sem]) rfl ⟨_, by rw [hcode.out, nD_no hcode.out (by decide)], by rw [lD_no hcode.out (by decide)]; exact own_nilB _ _ _, (hb.out.setCell (p := ⟨w.heap.size + 1, 0, none⟩) (by simp) (.int .i64 0)).setCell (p := ⟨w.heap.size + 1, 1, none⟩) (by simp) (.slice none 0 0)⟩
      case pos =>
      have hgt : ¬ (12 : Int) < S := by omega
      by_cases hd40 : (dwI l z).length ≤ 40
      case neg =>
        have h12 : ¬ (S ≤ 12 ∧ (dwI l z).length ≤ 40) := fun e => hd40 e.2
        have hcode := hid (codeD_full hok.out hzs.out (by rw [hSe.out]; exact h12))
        have hgt2 : (40 : Int) < ((dwI l z).length : Int) := by omega
        clear h12 hd40
        go_wp2_with fail
        refine bodyPost_ret (v := .tuple #[.agg #[.int .i64 0, .slice none 0 0], .int .i64 5]) (by simp [g50, g51, results, Try.results42, go_sem]) rfl ⟨_, by rw [hcode.out, nD_no hcode.out (by decide)], by rw [lD_no hcode.out (by decide)]; exact own_nilB _ _ _, (hb.out.setCell (p := ⟨w.heap.size + 1, 0, none⟩) (by simp) (.int .i64 0)).setCell (p := ⟨w.heap.size + 1, 1, none⟩) (by simp) (.slice none 0 0)⟩
      case pos =>
        have hcode := hid (codeD_ok hok.out hzs.out (by rw [hSe.out]; exact ⟨hS12, hd40⟩))
        have hgt2 : ¬ (40 : Int) < ((dwI l z).length : Int) := by omega
        clear hS12 hd40
        go_wp2_with fail
        refine bodyPost_ret (v := .tuple #[.agg #[.int .i64 S, .slice oa on oc], .int .i64 0]) (by simp [g60, g61, results, Try.results42, go_sem]) rfl ⟨_, by rw [hcode.out, nD_yes hcode.out, hSe.out], ?_, (hb.out.setCell (p := ⟨w.heap.size + 1, 0, none⟩) (by simp) (.int .i64 S)).setCell (p := ⟨w.heap.size + 1, 1, none⟩) (by simp) (.slice oa on oc)⟩
        rw [lD_yes hcode.out]
        have t1 := ho.out.set_block (g := w.heap.size + 1) (by omega) 0 (.int .i64 S)
        have t2 := t1.set_block (g := w.heap.size + 1) (by omega) 1 (.slice oa on oc)
        exact t2.mono (by omega)
    case pos =>
    obtain ⟨x0, x1⟩ := hlv.out _ (nth_inn hlt)
    have hi := h.idx (P := Try.prog) 22 sliceI sizeI .i64 k (by omega) (by simpa using hlt)
    simp only [Int.toNat_natCast] at hi
    have hc := (h.below hb.out).int hlt
    obtain ⟨x, hx⟩ : ∃ x, nth l k = x := ⟨_, rfl⟩
    obtain ⟨t, hat⟩ : ∃ t, (nth l k).natAbs = t + 1 := ⟨(nth l k).natAbs - 1, by omega⟩
    have htn : t + 1 < zz.length := by omega
    have hxb : absI x = (t : Int) + 1 := by unfold absI; split <;> omega
    have hA := hid (fun w => by have := size_impl x w (by omega); rw [hxb] at this; exact this)
    have ht0 : (t : Int) + 1 ≠ 0 := by omega
    obtain ⟨s, hq, hs1, hsg⟩ : ∃ s : Int, x.tdiv ((t : Int) + 1) = s ∧ (s = 1 ∨ s = -1) ∧ x.sign = s := by
      rcases Int.lt_trichotomy x 0 with h0 | h0 | h0
      · have e : x = -((t : Int) + 1) := by omega
        exact ⟨-1, by rw [e, Int.neg_tdiv, Int.tdiv_self ht0], .inr rfl, sign_neg h0⟩
      · omega
      · have e : x = (t : Int) + 1 := by omega
        exact ⟨1, by rw [e, Int.tdiv_self ht0], .inl rfl, sign_pos h0⟩
    have hws := Go.IntWalk.i64_in s (by omega)
    have hwt := Go.IntWalk.i64_in (t : Int) (by omega)
    have hwt1 := Go.IntWalk.i64_in ((t : Int) + 1) (by omega)
    rw [hx] at hc
    have hStep := hid (dwI_step (s := s) hlt hS.out hzn (hlv.out _ (nth_inn hlt)) hat (by rw [hx]; exact hsg))
    have hLen := dwI_len (s := s) hS.out hzn (hlv.out _ (nth_inn hlt)) hat (by rw [hx]; exact hsg)
    have hSw := hid (hS.out.swap (i := t) htn)
    have hsz4 := sum_bd4 hS.out (k := t) (by omega)
    have ha1 := hS.out t (by omega)
    have ha2 := hS.out (t + 1) htn
    have hzO := hid hb.out.size
    have hi2 := hown.reads.idx (P := Try.prog) 22 sliceI sizeI .i64 (t : Int) (by omega) (by simp; omega)
    have hi3 := hown.reads.idx (P := Try.prog) 22 sliceI sizeI .i64 ((t : Int) + 1) (by omega) (by simp; omega)
    rw [Int.toNat_natCast] at hi2
    rw [show ((t : Int) + 1).toNat = t + 1 by omega] at hi3
    have hsl := hown.reads.upto_run (P := Try.prog) (T := 22) sliceI sizeI .i64 (t : Int) (by omega) (by rw [length_ints]; omega)
    rw [Int.toNat_natCast] at hsl
    have hru := hown.reads.upto t (by rw [length_ints]; omega)
    have eu : (ints zz).take t = ints (zz.take t) := by simp [ints, List.map_take]
    rw [eu] at hru
    have hd := hown.reads.cell t _ (ints_at (by omega))
    have hd2 := hown.reads.cell (t + 1) _ (ints_at htn)
    have hbD := hid (Below.refl wr.heap.size wr).drew
    have hSum := hid (by have := sum_impl (upto p t) (zz.take t) wr.drew (hru.below hbD.out) (hS.out.take t) (by rw [List.length_take]; omega); rw [sumF_take (by omega)] at this; exact this)
    have hC := hid (fun w' => block_implI (sumTo (fun i => nth zz i) t) (nth zz t) (nth zz (t + 1)) s w' hs1 (by omega) (by omega) (by omega) (by omega) (by omega) (by omega))
    have hSx := hid (fun (w' : World) (hw : Own w' (w1.heap.size + 1) 2 p (ints zz)) => (⟨hw.reads.cell t _ (ints_at (by omega)), hw.reads.cell (t + 1) _ (ints_at htn)⟩ : w'.cell? (adr p t) = some (.int .i64 (nth zz t)) ∧ w'.cell? (adr p (t + 1)) = some (.int .i64 (nth zz (t + 1)))))
    have X1 := hX.cell 1 rfl
    have F1 := hX.frozen 1
    generalize hBL : (bl (sumTo (fun i => nth zz i) t).toNat (nth zz t).toNat (nth zz (t + 1)).toNat).map (s * ·) = BL at *
    clear hBL
    generalize sumTo (fun i => nth zz i) t = R at *
    replace hx := hid hx
    replace hat := hid hat
    replace hsg := hid hsg
    replace hs1 := hid hs1
    replace hxb := hid hxb
    clear x0 x1 hru eu
    replace hR := hid hR
    replace hX := hid hX
    have hSD : wr.drew.cell? (adr p t) = some (.int .i64 (nth zz t)) ∧ wr.drew.cell? (adr p (t + 1)) = some (.int .i64 (nth zz (t + 1))) := ⟨hd, hd2⟩
    go_wp2_with (go_at_call 54; refine (hA.out _).mono ?_; rintro e w5 ⟨rfl, rfl⟩)
    refine wp_region_noPanic ?_
    refine wp_region_held_drew (S := fun w' => w'.cell? (adr p t) = some (.int .i64 (nth zz t)) ∧ w'.cell? (adr p (t + 1)) = some (.int .i64 (nth zz (t + 1)))) (by kernel_rfl) ?_ (fun hHeld => ?_)
    focus (first | assumption | exact ⟨by assumption, by assumption⟩)
    refine wpAnyH_take (i := 0) (v := ?_) rfl (by kernel_rfl) (by kernel_rfl) (by kernel_rfl) (fun _ _ _ h => h) (Or.inl ⟨by kernel_rfl, ?_⟩) (by assumption) ?_; rotate_left; (focus ((intro w hSw; (try dsimp only at hSw); go_simp) <;> with_reducible rfl)); (try dsimp [Act.put]); (try simp only [List.setIfInBounds_toArray, List.set_cons_zero, List.set_cons_succ])
    refine wpAnyH_take (i := 2) (v := ?_) rfl (by kernel_rfl) (by kernel_rfl) (by kernel_rfl) (fun _ _ _ h => h) (Or.inl ⟨by kernel_rfl, ?_⟩) (by assumption) ?_; rotate_left; (focus ((intro w hSw; (try dsimp only at hSw); go_simp) <;> with_reducible rfl)); (try dsimp [Act.put]); (try simp only [List.setIfInBounds_toArray, List.set_cons_zero, List.set_cons_succ])
    refine wpAnyH_take (i := 3) (v := ?_) rfl (by kernel_rfl) (by kernel_rfl) (by kernel_rfl) (fun _ _ _ h => h) (Or.inl ⟨by kernel_rfl, ?_⟩) (by assumption) ?_; rotate_left; (focus ((intro w hSw; (try dsimp only at hSw); go_simp) <;> with_reducible rfl)); (try dsimp [Act.put]); (try simp only [List.setIfInBounds_toArray, List.set_cons_zero, List.set_cons_succ])
    refine wpAnyH_take (i := 4) (v := ?_) rfl (by kernel_rfl) (by kernel_rfl) (by kernel_rfl) (fun _ _ _ h => h) (Or.inl ⟨by kernel_rfl, ?_⟩) (by assumption) ?_; rotate_left; (focus ((intro w hSw; (try dsimp only at hSw); go_simp) <;> with_reducible rfl)); (try dsimp [Act.put]); (try simp only [List.setIfInBounds_toArray, List.set_cons_zero, List.set_cons_succ])
    refine wpAnyH_take (i := 6) (v := ?_) rfl (by kernel_rfl) (by kernel_rfl) (by kernel_rfl) (fun _ _ _ h => h) (Or.inl ⟨by kernel_rfl, ?_⟩) (by assumption) ?_; rotate_left; (focus ((intro w hSw; (try dsimp only at hSw); go_simp) <;> with_reducible rfl)); (try dsimp [Act.put]); (try simp only [List.setIfInBounds_toArray, List.set_cons_zero, List.set_cons_succ])
    refine wpAnyH_take (i := 7) (v := ?_) rfl (by kernel_rfl) (by kernel_rfl) (by kernel_rfl) (fun _ _ _ h => h) (Or.inl ⟨by kernel_rfl, ?_⟩) (by assumption) ?_; rotate_left; (focus ((intro w hSw; (try dsimp only at hSw); go_simp) <;> with_reducible rfl)); (try dsimp [Act.put]); (try simp only [List.setIfInBounds_toArray, List.set_cons_zero, List.set_cons_succ])
    refine wpAnyH_take (i := 8) (v := ?_) rfl (by kernel_rfl) (by kernel_rfl) (by kernel_rfl) (fun _ _ _ h => h) (Or.inl ⟨by kernel_rfl, ?_⟩) (by assumption) ?_; rotate_left; (focus ((intro w hSw; (try dsimp only at hSw); go_simp) <;> with_reducible rfl)); (try dsimp [Act.put]); (try simp only [List.setIfInBounds_toArray, List.set_cons_zero, List.set_cons_succ])
    refine wpAnyH_take (i := 9) (v := ?_) rfl (by kernel_rfl) (by kernel_rfl) (by kernel_rfl) (fun _ _ _ h => h) (Or.inl ⟨by kernel_rfl, ?_⟩) (by assumption) ?_; rotate_left; (focus ((intro w hSw; (try dsimp only at hSw); go_simp) <;> with_reducible rfl)); (try dsimp [Act.put]); (try simp only [List.setIfInBounds_toArray, List.set_cons_zero, List.set_cons_succ])
    refine wpAnyH_take (i := 10) (v := ?_) rfl (by kernel_rfl) (by kernel_rfl) (by kernel_rfl) (fun _ _ _ h => h) (Or.inl ⟨by kernel_rfl, ?_⟩) (by assumption) ?_; rotate_left; (focus ((intro w hSw; (try dsimp only at hSw); go_simp) <;> with_reducible rfl)); (try dsimp [Act.put]); (try simp only [List.setIfInBounds_toArray, List.set_cons_zero, List.set_cons_succ])
    refine wpAnyH_take (i := 11) (v := ?_) rfl (by kernel_rfl) (by kernel_rfl) (by kernel_rfl) (fun _ _ _ h => h) (Or.inl ⟨by kernel_rfl, ?_⟩) (by assumption) ?_; rotate_left; (focus ((intro w hSw; (try dsimp only at hSw); go_simp) <;> with_reducible rfl)); (try dsimp [Act.put]); (try simp only [List.setIfInBounds_toArray, List.set_cons_zero, List.set_cons_succ])
    refine wpAnyH_take (i := 12) (v := ?_) rfl (by kernel_rfl) (by kernel_rfl) (by kernel_rfl) (fun _ _ _ h => h) (Or.inl ⟨by kernel_rfl, ?_⟩) (by assumption) ?_; rotate_left; (focus ((intro w hSw; (try dsimp only at hSw); go_simp) <;> with_reducible rfl)); (try dsimp [Act.put]); (try simp only [List.setIfInBounds_toArray, List.set_cons_zero, List.set_cons_succ])
    refine wpAnyH_take (i := 13) (v := ?_) rfl (by kernel_rfl) (by kernel_rfl) (by kernel_rfl) (fun _ _ _ h => h) (Or.inl ⟨by kernel_rfl, ?_⟩) (by assumption) ?_; rotate_left; (focus ((intro w hSw; (try dsimp only at hSw); go_simp) <;> with_reducible rfl)); (try dsimp [Act.put]); (try simp only [List.setIfInBounds_toArray, List.set_cons_zero, List.set_cons_succ])
    refine wpAnyH_take (i := 14) (v := ?_) rfl (by kernel_rfl) (by kernel_rfl) (by kernel_rfl) (fun _ _ _ h => h) (Or.inl ⟨by kernel_rfl, ?_⟩) (by assumption) ?_; rotate_left; (focus ((intro w hSw; (try dsimp only at hSw); go_simp) <;> with_reducible rfl)); (try dsimp [Act.put]); (try simp only [List.setIfInBounds_toArray, List.set_cons_zero, List.set_cons_succ])
    refine wpAnyH_take (i := 15) (v := ?_) rfl (by kernel_rfl) (by kernel_rfl) (by kernel_rfl) (fun _ _ _ h => h) (Or.inl ⟨by kernel_rfl, ?_⟩) (by assumption) ?_; rotate_left; (focus ((intro w hSw; (try dsimp only at hSw); go_simp) <;> with_reducible rfl)); (try dsimp [Act.put]); (try simp only [List.setIfInBounds_toArray, List.set_cons_zero, List.set_cons_succ])
    refine wpAnyH_take (i := 16) (v := ?_) rfl (by kernel_rfl) (by kernel_rfl) (by kernel_rfl) (fun _ _ _ h => h) (Or.inl ⟨by kernel_rfl, ?_⟩) (by assumption) ?_; rotate_left; (focus ((intro w hSw; (try dsimp only at hSw); go_simp) <;> with_reducible rfl)); (try dsimp [Act.put]); (try simp only [List.setIfInBounds_toArray, List.set_cons_zero, List.set_cons_succ])
    refine wpAnyH_ready (rs := [1, 5]) (by kernel_rfl) (by simp) ?_
    refine AllReadyH.cons rfl (fun KK hKK => ?_) ?_
    · go_simp
      refine hKK.out _ _ ?_ (fun hHeld => ?_)
      focus (first | assumption | exact ⟨by assumption, by assumption⟩)
      clear hKK KK
      (try dsimp [Act.put]); (try simp only [List.setIfInBounds_toArray, List.set_cons_zero, List.set_cons_succ])
      refine wpAnyH_ready (rs := [5]) (by kernel_rfl) (by simp) ?_
      refine AllReadyH.cons (o := { dst := some 45, op := .call { callee := .value (.func 70), args := #[.tmp 44], argTypes := #[22] }, type := _, pos := _, after := _, guard := _ }) rfl (fun KK hKK => ?_) AllReadyH.nil
      refine step_call hSum.out (fun _ => by kernel_rfl) rfl (.tmp 44) rfl (by simp [Act.eval]) ?_
      rintro e w5 ⟨rfl, rfl⟩
      refine ⟨_, rfl, ?_⟩
      refine hKK.out _ _ ?_ (fun hHeld => ?_)
      focus (first | assumption | exact ⟨by assumption, by assumption⟩)
      clear hKK KK
      (try dsimp [Act.put]); (try simp only [List.setIfInBounds_toArray, List.set_cons_zero, List.set_cons_succ])
      refine wpAnyH_ready (rs := [17]) (by kernel_rfl) (by simp) ?_
      refine AllReadyH.cons (o := { dst := some 57, op := .call { callee := .value (.func 54), args := #[.tmp 56], argTypes := #[2] }, type := _, pos := _, after := _, guard := _ }) rfl (fun KK hKK => ?_) AllReadyH.nil
      refine step_call (hA.out _) (fun _ => by kernel_rfl) rfl (.tmp 56) rfl (by simp [Act.eval]) ?_
      rintro e w5 ⟨rfl, rfl⟩
      refine ⟨_, rfl, ?_⟩
      refine hKK.out _ _ ?_ (fun hHeld => ?_)
      focus (first | assumption | exact ⟨by assumption, by assumption⟩)
      clear hKK KK
      (try dsimp [Act.put]); (try simp only [List.setIfInBounds_toArray, List.set_cons_zero, List.set_cons_succ])
      refine wpAnyH_take (i := 18) (v := ?_) rfl (by kernel_rfl) (by kernel_rfl) (by kernel_rfl) (fun _ _ _ h => h) (Or.inl ⟨by kernel_rfl, ?_⟩) (by assumption) ?_; rotate_left; (focus ((intro w hSw; (try dsimp only at hSw); go_simp) <;> with_reducible rfl)); (try dsimp [Act.put]); (try simp only [List.setIfInBounds_toArray, List.set_cons_zero, List.set_cons_succ])
      refine wpAnyH_ready (rs := [19]) (by kernel_rfl) (by simp) ?_
      refine AllReadyH.cons (o := { dst := some 59, op := .call { callee := .value (.func 72), args := #[.tmp 45, .tmp 49, .tmp 54, .tmp 58], argTypes := #[2, 2, 2, 2] }, type := _, pos := _, after := _, guard := _ }) rfl (fun KK hKK => ?_) AllReadyH.nil
      refine step_call4 (hC.out _) (fun _ => by kernel_rfl) rfl (.tmp 45) (.tmp 49) (.tmp 54) (.tmp 58) rfl (by simp [Act.eval]) (by simp [Act.eval]) (by simp [Act.eval]) (by simp [Act.eval]) ?_
      rintro e w6 ⟨p6, rfl, hp6, hs6⟩
      refine ⟨_, rfl, ?_⟩
      have hs6' := hid (hbD.out.trans hs6)
      have hX6 := hX.out.below hs6'.out
      have X61 := hX6.cell 1 rfl
      obtain ⟨q, w7, hrun, hq7, hg7⟩ := app_run (ty := 22) sliceI infoI rfl (ho.below hs6'.out) hp6.reads (oneCell_ints _) (Nat.le_trans hzw.out hs6'.out.size) (by simp; omega) (by decide)
      obtain ⟨qa, qn, qc, rfl⟩ := hq7.form3
      have hX7 := hX6.grown hg7 (ho.blk_ne hz3)
      have X71 := hX7.cell 1 rfl
      have F71 := hX7.frozen 1
      have hp7 := (hown.below hs6'.out).keep (w' := w7) fun g hg hgl => hg7.block g hgl (fun e => by have h1 := (ho.blk_lt e.symm).1; have h2 := (hpb.out g hg).2; omega)
      have hwF := hp7.other (a := ⟨w1.heap.size, 1, none⟩) (fun e => by have h2 := (hpb.out _ e).1; simp at h2; omega) (.slice qa qn qc)
      have hS6 := hSx.out w6 (hown.below hs6'.out)
      have hS7 := hSx.out w7 hp7
      have hS8 := hSx.out _ hwF
      replace hs6 := hid hs6
      replace hp6 := hid hp6
      replace hq7 := hid hq7
      replace hg7 := hid hg7
      replace hp7 := hid hp7
      replace hwF := hid hwF
      replace hX6 := hid hX6
      replace hX7 := hid hX7
      refine hKK.out _ _ ?_ (fun hHeld => ?_)
      focus (first | assumption | exact ⟨by assumption, by assumption⟩)
      clear hKK KK
      (try dsimp [Act.put]); (try simp only [List.setIfInBounds_toArray, List.set_cons_zero, List.set_cons_succ])
      refine wpAnyH_ready (rs := [20]) (by kernel_rfl) (by simp) ?_
      refine AllReadyH.cons (o := { dst := some 60, op := .call { callee := .builtin .append, args := #[.tmp 41, .tmp 59], argTypes := #[22, 22] }, type := _, pos := _, after := _, guard := _ }) rfl (fun KK hKK => ?_) AllReadyH.nil
      refine step_app hrun rfl (.tmp 41) (.tmp 59) rfl (by simp [Act.eval]) (by simp [Act.eval]) ?_
      refine hKK.out _ _ ?_ (fun hHeld => ?_)
      focus (first | assumption | exact ⟨by assumption, by assumption⟩)
      clear hKK KK
      (try dsimp [Act.put]); (try simp only [List.setIfInBounds_toArray, List.set_cons_zero, List.set_cons_succ])
      refine wpAnyH_take (i := 21) (v := ?_) rfl (by kernel_rfl) (by kernel_rfl) (by kernel_rfl) (fun _ _ _ h => h) (Or.inl ⟨by kernel_rfl, ?_⟩) (by assumption) ?_; rotate_left; (focus ((intro w hSw; (try dsimp only at hSw); go_simp) <;> with_reducible rfl)); (try dsimp [Act.put]); (try simp only [List.setIfInBounds_toArray, List.set_cons_zero, List.set_cons_succ])
      refine wpAnyH_ready (rs := [22]) (by kernel_rfl) (by simp) ?_
      refine AllReadyH.cons rfl (fun KK hKK => ?_) AllReadyH.nil
      go_simp
      refine hKK.out _ _ ?_ (fun hHeld => ?_)
      focus (first | assumption | exact ⟨by assumption, by assumption⟩)
      clear hKK KK
      (try dsimp [Act.put]); (try simp only [List.setIfInBounds_toArray, List.set_cons_zero, List.set_cons_succ])
      refine wpAnyH_done (by kernel_rfl) ?_ _
      refine NoPanic.normal ?_
      have hbX := hid (((hb.out.trans (hs6'.out.mono hzO.out)).grown hg7.out (Nat.le_trans hzO.out hs6'.out.size) (fun j hj => by have h1 := (ho.blk_lt hj).1; omega)).setCell (p := ⟨w1.heap.size, 1, none⟩) (by show w.heap.size ≤ w1.heap.size; omega) (.slice qa qn qc))
      have hX8 := hX7.out.set 1 (.slice qa qn qc)
      have hR8 := ((hR.out.below hs6'.out).grown hg7.out (ho.blk_ne (by omega))).other (a := ⟨w1.heap.size, 1, none⟩) (by show w1.heap.size ≠ w.heap.size + 1; omega) (.slice qa qn qc)
      have hq8 := hq7.out.set_block (g := w1.heap.size) (by omega) 1 (.slice qa qn qc)
      have hp8 := hwF.out
      have hz8 : w3.heap.size ≤ (w7.setCell ⟨w1.heap.size, 1, none⟩ (.slice qa qn qc)).heap.size := by have h1 := hzw.out; have h2 := hs6'.out.size; have h3 := hg7.out.size; simp only [World.setCell, Array.size_modify]; omega
      clear hS6 hS7 hS8 hHeld X61 X71 F71 hd hd2 hSD X1 F1 hrun
      clear hs6 hp6 hq7 hg7 hp7 hwF hX6 hX7 hs6' hX hR hb ho hown hzw
      generalize (w7.setCell ⟨w1.heap.size, 1, none⟩ (.slice qa qn qc)) = wF at *
      have d7 := hp8.reads.cell t _ (ints_at (by omega))
      have d8 := hp8.reads.cell (t + 1) _ (ints_at (by omega))
      have hf := hp8.frozen (i := t) (by simp; omega)
      have hf2 := hp8.frozen (i := t + 1) (by simp; omega)
      have hab := hp8.adr_blk (i := t) (by simp; omega)
      have hab2 := hp8.adr_blk (i := t + 1) (by simp; omega)
      have hne := hp8.adr_ne (i := t) (j := t + 1) (by simp; omega) (by omega)
      have hne2 := hp8.adr_ne (i := t + 1) (j := t) (by simp; omega) (by omega)
      have hst := ((hp8.set (i := t) (by simp; omega) (.int .i64 (nth zz (t + 1)))).set (i := t + 1) (by simp; omega) (.int .i64 (nth zz t))).drew
      rw [ints_set, ints_set] at hst
      have hst2 := hid (show Own _ (w1.heap.size + 1) 2 p (ints (swapAt zz t)) from hst)
      have hq9 := hid ((hq8.other (a := adr p t) (fun e => by have h1 := (hq8.blk_lt e).1; have h2 := (hpb.out _ hab.1).2; omega) (.int .i64 (nth zz (t + 1)))).other (a := adr p (t + 1)) (fun e => by have h1 := (hq8.blk_lt e).1; have h2 := (hpb.out _ hab2.1).2; omega) (.int .i64 (nth zz t))).drew
      have hX9 := hid (((hX8.other (a := adr p t) (by have := hab.2.1; omega) (.int .i64 (nth zz (t + 1)))).other (a := adr p (t + 1)) (by have := hab2.2.1; omega) (.int .i64 (nth zz t))).drew)
      have hR9 := hid (((hR8.other (a := adr p t) (by have := hab.2.1; omega) (.int .i64 (nth zz (t + 1)))).other (a := adr p (t + 1)) (by have := hab2.2.1; omega) (.int .i64 (nth zz t))).drew)
      have hbF := hid (((hbX.out.setCell (p := adr p t) (by have := hab.2.1; omega) (.int .i64 (nth zz (t + 1)))).setCell (p := adr p (t + 1)) (by have := hab2.2.1; omega) (.int .i64 (nth zz t))).drew)
      have hzF := hid (show w3.heap.size ≤ (((wF.setCell (adr p t) (.int .i64 (nth zz (t + 1)))).setCell (adr p (t + 1)) (.int .i64 (nth zz t))).drew).heap.size from by simp only [World.drew, World.setCell, Array.size_modify]; exact hz8)
      have hEF := hid (show (d ++ BL) ++ dwI (l.drop (k + 1)) (swapAt zz t) = dwI l z by rw [List.append_assoc, ← hStep.out]; exact hE.out)
      have hin := hid (show ints (d ++ BL) = ints d ++ ints BL by simp [ints])
      have hlF : (swapAt zz t).length = z.length := by rw [length_swapAt]; exact hzn
      clear hst hab hab2 hp8 hq8 hX8 hR8 hbX hz8 hSum
      go_wp2_with fail
      go_region
      go_wp2_with fail
      go_roundw
      case rel => exact ⟨k + 1, swapAt zz t, d ++ BL, .slice qa qn qc, by omega, by go_num, hSw, hlF, hEF, by rw [List.length_append]; omega, hR9.out, hX9.out, by rw [hin.out]; exact hq9.out, hst2.out, hbF, hzF⟩
      case measure => simp [intOf] <;> omega
    refine AllReadyH.cons (o := { dst := some 45, op := .call { callee := .value (.func 70), args := #[.tmp 44], argTypes := #[22] }, type := _, pos := _, after := _, guard := _ }) rfl (fun KK hKK => ?_) AllReadyH.nil
    refine step_call hSum.out (fun _ => by kernel_rfl) rfl (.tmp 44) rfl (by simp [Act.eval]) ?_
    rintro e w5 ⟨rfl, rfl⟩
    refine ⟨_, rfl, ?_⟩
    refine hKK.out _ _ ?_ (fun hHeld => ?_)
    focus (first | assumption | exact ⟨by assumption, by assumption⟩)
    clear hKK KK
    (try dsimp [Act.put]); (try simp only [List.setIfInBounds_toArray, List.set_cons_zero, List.set_cons_succ])
    refine wpAnyH_ready (rs := [1, 17]) (by kernel_rfl) (by simp) ?_
    refine AllReadyH.cons rfl (fun KK hKK => ?_) ?_
    · go_simp
      refine hKK.out _ _ ?_ (fun hHeld => ?_)
      focus (first | assumption | exact ⟨by assumption, by assumption⟩)
      clear hKK KK
      (try dsimp [Act.put]); (try simp only [List.setIfInBounds_toArray, List.set_cons_zero, List.set_cons_succ])
      refine wpAnyH_ready (rs := [17]) (by kernel_rfl) (by simp) ?_
      refine AllReadyH.cons (o := { dst := some 57, op := .call { callee := .value (.func 54), args := #[.tmp 56], argTypes := #[2] }, type := _, pos := _, after := _, guard := _ }) rfl (fun KK hKK => ?_) AllReadyH.nil
      refine step_call (hA.out _) (fun _ => by kernel_rfl) rfl (.tmp 56) rfl (by simp [Act.eval]) ?_
      rintro e w5 ⟨rfl, rfl⟩
      refine ⟨_, rfl, ?_⟩
      refine hKK.out _ _ ?_ (fun hHeld => ?_)
      focus (first | assumption | exact ⟨by assumption, by assumption⟩)
      clear hKK KK
      (try dsimp [Act.put]); (try simp only [List.setIfInBounds_toArray, List.set_cons_zero, List.set_cons_succ])
      refine wpAnyH_take (i := 18) (v := ?_) rfl (by kernel_rfl) (by kernel_rfl) (by kernel_rfl) (fun _ _ _ h => h) (Or.inl ⟨by kernel_rfl, ?_⟩) (by assumption) ?_; rotate_left; (focus ((intro w hSw; (try dsimp only at hSw); go_simp) <;> with_reducible rfl)); (try dsimp [Act.put]); (try simp only [List.setIfInBounds_toArray, List.set_cons_zero, List.set_cons_succ])
      refine wpAnyH_ready (rs := [19]) (by kernel_rfl) (by simp) ?_
      refine AllReadyH.cons (o := { dst := some 59, op := .call { callee := .value (.func 72), args := #[.tmp 45, .tmp 49, .tmp 54, .tmp 58], argTypes := #[2, 2, 2, 2] }, type := _, pos := _, after := _, guard := _ }) rfl (fun KK hKK => ?_) AllReadyH.nil
      refine step_call4 (hC.out _) (fun _ => by kernel_rfl) rfl (.tmp 45) (.tmp 49) (.tmp 54) (.tmp 58) rfl (by simp [Act.eval]) (by simp [Act.eval]) (by simp [Act.eval]) (by simp [Act.eval]) ?_
      rintro e w6 ⟨p6, rfl, hp6, hs6⟩
      refine ⟨_, rfl, ?_⟩
      have hs6' := hid (hbD.out.trans hs6)
      have hX6 := hX.out.below hs6'.out
      have X61 := hX6.cell 1 rfl
      obtain ⟨q, w7, hrun, hq7, hg7⟩ := app_run (ty := 22) sliceI infoI rfl (ho.below hs6'.out) hp6.reads (oneCell_ints _) (Nat.le_trans hzw.out hs6'.out.size) (by simp; omega) (by decide)
      obtain ⟨qa, qn, qc, rfl⟩ := hq7.form3
      have hX7 := hX6.grown hg7 (ho.blk_ne hz3)
      have X71 := hX7.cell 1 rfl
      have F71 := hX7.frozen 1
      have hp7 := (hown.below hs6'.out).keep (w' := w7) fun g hg hgl => hg7.block g hgl (fun e => by have h1 := (ho.blk_lt e.symm).1; have h2 := (hpb.out g hg).2; omega)
      have hwF := hp7.other (a := ⟨w1.heap.size, 1, none⟩) (fun e => by have h2 := (hpb.out _ e).1; simp at h2; omega) (.slice qa qn qc)
      have hS6 := hSx.out w6 (hown.below hs6'.out)
      have hS7 := hSx.out w7 hp7
      have hS8 := hSx.out _ hwF
      replace hs6 := hid hs6
      replace hp6 := hid hp6
      replace hq7 := hid hq7
      replace hg7 := hid hg7
      replace hp7 := hid hp7
      replace hwF := hid hwF
      replace hX6 := hid hX6
      replace hX7 := hid hX7
      refine hKK.out _ _ ?_ (fun hHeld => ?_)
      focus (first | assumption | exact ⟨by assumption, by assumption⟩)
      clear hKK KK
      (try dsimp [Act.put]); (try simp only [List.setIfInBounds_toArray, List.set_cons_zero, List.set_cons_succ])
      refine wpAnyH_ready (rs := [20]) (by kernel_rfl) (by simp) ?_
      refine AllReadyH.cons (o := { dst := some 60, op := .call { callee := .builtin .append, args := #[.tmp 41, .tmp 59], argTypes := #[22, 22] }, type := _, pos := _, after := _, guard := _ }) rfl (fun KK hKK => ?_) AllReadyH.nil
      refine step_app hrun rfl (.tmp 41) (.tmp 59) rfl (by simp [Act.eval]) (by simp [Act.eval]) ?_
      refine hKK.out _ _ ?_ (fun hHeld => ?_)
      focus (first | assumption | exact ⟨by assumption, by assumption⟩)
      clear hKK KK
      (try dsimp [Act.put]); (try simp only [List.setIfInBounds_toArray, List.set_cons_zero, List.set_cons_succ])
      refine wpAnyH_take (i := 21) (v := ?_) rfl (by kernel_rfl) (by kernel_rfl) (by kernel_rfl) (fun _ _ _ h => h) (Or.inl ⟨by kernel_rfl, ?_⟩) (by assumption) ?_; rotate_left; (focus ((intro w hSw; (try dsimp only at hSw); go_simp) <;> with_reducible rfl)); (try dsimp [Act.put]); (try simp only [List.setIfInBounds_toArray, List.set_cons_zero, List.set_cons_succ])
      refine wpAnyH_ready (rs := [22]) (by kernel_rfl) (by simp) ?_
      refine AllReadyH.cons rfl (fun KK hKK => ?_) AllReadyH.nil
      go_simp
      refine hKK.out _ _ ?_ (fun hHeld => ?_)
      focus (first | assumption | exact ⟨by assumption, by assumption⟩)
      clear hKK KK
      (try dsimp [Act.put]); (try simp only [List.setIfInBounds_toArray, List.set_cons_zero, List.set_cons_succ])
      refine wpAnyH_done (by kernel_rfl) ?_ _
      refine NoPanic.normal ?_
      have hbX := hid (((hb.out.trans (hs6'.out.mono hzO.out)).grown hg7.out (Nat.le_trans hzO.out hs6'.out.size) (fun j hj => by have h1 := (ho.blk_lt hj).1; omega)).setCell (p := ⟨w1.heap.size, 1, none⟩) (by show w.heap.size ≤ w1.heap.size; omega) (.slice qa qn qc))
      have hX8 := hX7.out.set 1 (.slice qa qn qc)
      have hR8 := ((hR.out.below hs6'.out).grown hg7.out (ho.blk_ne (by omega))).other (a := ⟨w1.heap.size, 1, none⟩) (by show w1.heap.size ≠ w.heap.size + 1; omega) (.slice qa qn qc)
      have hq8 := hq7.out.set_block (g := w1.heap.size) (by omega) 1 (.slice qa qn qc)
      have hp8 := hwF.out
      have hz8 : w3.heap.size ≤ (w7.setCell ⟨w1.heap.size, 1, none⟩ (.slice qa qn qc)).heap.size := by have h1 := hzw.out; have h2 := hs6'.out.size; have h3 := hg7.out.size; simp only [World.setCell, Array.size_modify]; omega
      clear hS6 hS7 hS8 hHeld X61 X71 F71 hd hd2 hSD X1 F1 hrun
      clear hs6 hp6 hq7 hg7 hp7 hwF hX6 hX7 hs6' hX hR hb ho hown hzw
      generalize (w7.setCell ⟨w1.heap.size, 1, none⟩ (.slice qa qn qc)) = wF at *
      have d7 := hp8.reads.cell t _ (ints_at (by omega))
      have d8 := hp8.reads.cell (t + 1) _ (ints_at (by omega))
      have hf := hp8.frozen (i := t) (by simp; omega)
      have hf2 := hp8.frozen (i := t + 1) (by simp; omega)
      have hab := hp8.adr_blk (i := t) (by simp; omega)
      have hab2 := hp8.adr_blk (i := t + 1) (by simp; omega)
      have hne := hp8.adr_ne (i := t) (j := t + 1) (by simp; omega) (by omega)
      have hne2 := hp8.adr_ne (i := t + 1) (j := t) (by simp; omega) (by omega)
      have hst := ((hp8.set (i := t) (by simp; omega) (.int .i64 (nth zz (t + 1)))).set (i := t + 1) (by simp; omega) (.int .i64 (nth zz t))).drew
      rw [ints_set, ints_set] at hst
      have hst2 := hid (show Own _ (w1.heap.size + 1) 2 p (ints (swapAt zz t)) from hst)
      have hq9 := hid ((hq8.other (a := adr p t) (fun e => by have h1 := (hq8.blk_lt e).1; have h2 := (hpb.out _ hab.1).2; omega) (.int .i64 (nth zz (t + 1)))).other (a := adr p (t + 1)) (fun e => by have h1 := (hq8.blk_lt e).1; have h2 := (hpb.out _ hab2.1).2; omega) (.int .i64 (nth zz t))).drew
      have hX9 := hid (((hX8.other (a := adr p t) (by have := hab.2.1; omega) (.int .i64 (nth zz (t + 1)))).other (a := adr p (t + 1)) (by have := hab2.2.1; omega) (.int .i64 (nth zz t))).drew)
      have hR9 := hid (((hR8.other (a := adr p t) (by have := hab.2.1; omega) (.int .i64 (nth zz (t + 1)))).other (a := adr p (t + 1)) (by have := hab2.2.1; omega) (.int .i64 (nth zz t))).drew)
      have hbF := hid (((hbX.out.setCell (p := adr p t) (by have := hab.2.1; omega) (.int .i64 (nth zz (t + 1)))).setCell (p := adr p (t + 1)) (by have := hab2.2.1; omega) (.int .i64 (nth zz t))).drew)
      have hzF := hid (show w3.heap.size ≤ (((wF.setCell (adr p t) (.int .i64 (nth zz (t + 1)))).setCell (adr p (t + 1)) (.int .i64 (nth zz t))).drew).heap.size from by simp only [World.drew, World.setCell, Array.size_modify]; exact hz8)
      have hEF := hid (show (d ++ BL) ++ dwI (l.drop (k + 1)) (swapAt zz t) = dwI l z by rw [List.append_assoc, ← hStep.out]; exact hE.out)
      have hin := hid (show ints (d ++ BL) = ints d ++ ints BL by simp [ints])
      have hlF : (swapAt zz t).length = z.length := by rw [length_swapAt]; exact hzn
      clear hst hab hab2 hp8 hq8 hX8 hR8 hbX hz8 hSum
      go_wp2_with fail
      go_region
      go_wp2_with fail
      go_roundw
      case rel => exact ⟨k + 1, swapAt zz t, d ++ BL, .slice qa qn qc, by omega, by go_num, hSw, hlF, hEF, by rw [List.length_append]; omega, hR9.out, hX9.out, by rw [hin.out]; exact hq9.out, hst2.out, hbF, hzF⟩
      case measure => simp [intOf] <;> omega
    refine AllReadyH.cons (o := { dst := some 57, op := .call { callee := .value (.func 54), args := #[.tmp 56], argTypes := #[2] }, type := _, pos := _, after := _, guard := _ }) rfl (fun KK hKK => ?_) AllReadyH.nil
    refine step_call (hA.out _) (fun _ => by kernel_rfl) rfl (.tmp 56) rfl (by simp [Act.eval]) ?_
    rintro e w5 ⟨rfl, rfl⟩
    refine ⟨_, rfl, ?_⟩
    refine hKK.out _ _ ?_ (fun hHeld => ?_)
    focus (first | assumption | exact ⟨by assumption, by assumption⟩)
    clear hKK KK
    (try dsimp [Act.put]); (try simp only [List.setIfInBounds_toArray, List.set_cons_zero, List.set_cons_succ])
    refine wpAnyH_take (i := 18) (v := ?_) rfl (by kernel_rfl) (by kernel_rfl) (by kernel_rfl) (fun _ _ _ h => h) (Or.inl ⟨by kernel_rfl, ?_⟩) (by assumption) ?_; rotate_left; (focus ((intro w hSw; (try dsimp only at hSw); go_simp) <;> with_reducible rfl)); (try dsimp [Act.put]); (try simp only [List.setIfInBounds_toArray, List.set_cons_zero, List.set_cons_succ])
    refine wpAnyH_ready (rs := [1, 19]) (by kernel_rfl) (by simp) ?_
    refine AllReadyH.cons rfl (fun KK hKK => ?_) ?_
    · go_simp
      refine hKK.out _ _ ?_ (fun hHeld => ?_)
      focus (first | assumption | exact ⟨by assumption, by assumption⟩)
      clear hKK KK
      (try dsimp [Act.put]); (try simp only [List.setIfInBounds_toArray, List.set_cons_zero, List.set_cons_succ])
      refine wpAnyH_ready (rs := [19]) (by kernel_rfl) (by simp) ?_
      refine AllReadyH.cons (o := { dst := some 59, op := .call { callee := .value (.func 72), args := #[.tmp 45, .tmp 49, .tmp 54, .tmp 58], argTypes := #[2, 2, 2, 2] }, type := _, pos := _, after := _, guard := _ }) rfl (fun KK hKK => ?_) AllReadyH.nil
      refine step_call4 (hC.out _) (fun _ => by kernel_rfl) rfl (.tmp 45) (.tmp 49) (.tmp 54) (.tmp 58) rfl (by simp [Act.eval]) (by simp [Act.eval]) (by simp [Act.eval]) (by simp [Act.eval]) ?_
      rintro e w6 ⟨p6, rfl, hp6, hs6⟩
      refine ⟨_, rfl, ?_⟩
      have hs6' := hid (hbD.out.trans hs6)
      have hX6 := hX.out.below hs6'.out
      have X61 := hX6.cell 1 rfl
      obtain ⟨q, w7, hrun, hq7, hg7⟩ := app_run (ty := 22) sliceI infoI rfl (ho.below hs6'.out) hp6.reads (oneCell_ints _) (Nat.le_trans hzw.out hs6'.out.size) (by simp; omega) (by decide)
      obtain ⟨qa, qn, qc, rfl⟩ := hq7.form3
      have hX7 := hX6.grown hg7 (ho.blk_ne hz3)
      have X71 := hX7.cell 1 rfl
      have F71 := hX7.frozen 1
      have hp7 := (hown.below hs6'.out).keep (w' := w7) fun g hg hgl => hg7.block g hgl (fun e => by have h1 := (ho.blk_lt e.symm).1; have h2 := (hpb.out g hg).2; omega)
      have hwF := hp7.other (a := ⟨w1.heap.size, 1, none⟩) (fun e => by have h2 := (hpb.out _ e).1; simp at h2; omega) (.slice qa qn qc)
      have hS6 := hSx.out w6 (hown.below hs6'.out)
      have hS7 := hSx.out w7 hp7
      have hS8 := hSx.out _ hwF
      replace hs6 := hid hs6
      replace hp6 := hid hp6
      replace hq7 := hid hq7
      replace hg7 := hid hg7
      replace hp7 := hid hp7
      replace hwF := hid hwF
      replace hX6 := hid hX6
      replace hX7 := hid hX7
      refine hKK.out _ _ ?_ (fun hHeld => ?_)
      focus (first | assumption | exact ⟨by assumption, by assumption⟩)
      clear hKK KK
      (try dsimp [Act.put]); (try simp only [List.setIfInBounds_toArray, List.set_cons_zero, List.set_cons_succ])
      refine wpAnyH_ready (rs := [20]) (by kernel_rfl) (by simp) ?_
      refine AllReadyH.cons (o := { dst := some 60, op := .call { callee := .builtin .append, args := #[.tmp 41, .tmp 59], argTypes := #[22, 22] }, type := _, pos := _, after := _, guard := _ }) rfl (fun KK hKK => ?_) AllReadyH.nil
      refine step_app hrun rfl (.tmp 41) (.tmp 59) rfl (by simp [Act.eval]) (by simp [Act.eval]) ?_
      refine hKK.out _ _ ?_ (fun hHeld => ?_)
      focus (first | assumption | exact ⟨by assumption, by assumption⟩)
      clear hKK KK
      (try dsimp [Act.put]); (try simp only [List.setIfInBounds_toArray, List.set_cons_zero, List.set_cons_succ])
      refine wpAnyH_take (i := 21) (v := ?_) rfl (by kernel_rfl) (by kernel_rfl) (by kernel_rfl) (fun _ _ _ h => h) (Or.inl ⟨by kernel_rfl, ?_⟩) (by assumption) ?_; rotate_left; (focus ((intro w hSw; (try dsimp only at hSw); go_simp) <;> with_reducible rfl)); (try dsimp [Act.put]); (try simp only [List.setIfInBounds_toArray, List.set_cons_zero, List.set_cons_succ])
      refine wpAnyH_ready (rs := [22]) (by kernel_rfl) (by simp) ?_
      refine AllReadyH.cons rfl (fun KK hKK => ?_) AllReadyH.nil
      go_simp
      refine hKK.out _ _ ?_ (fun hHeld => ?_)
      focus (first | assumption | exact ⟨by assumption, by assumption⟩)
      clear hKK KK
      (try dsimp [Act.put]); (try simp only [List.setIfInBounds_toArray, List.set_cons_zero, List.set_cons_succ])
      refine wpAnyH_done (by kernel_rfl) ?_ _
      refine NoPanic.normal ?_
      have hbX := hid (((hb.out.trans (hs6'.out.mono hzO.out)).grown hg7.out (Nat.le_trans hzO.out hs6'.out.size) (fun j hj => by have h1 := (ho.blk_lt hj).1; omega)).setCell (p := ⟨w1.heap.size, 1, none⟩) (by show w.heap.size ≤ w1.heap.size; omega) (.slice qa qn qc))
      have hX8 := hX7.out.set 1 (.slice qa qn qc)
      have hR8 := ((hR.out.below hs6'.out).grown hg7.out (ho.blk_ne (by omega))).other (a := ⟨w1.heap.size, 1, none⟩) (by show w1.heap.size ≠ w.heap.size + 1; omega) (.slice qa qn qc)
      have hq8 := hq7.out.set_block (g := w1.heap.size) (by omega) 1 (.slice qa qn qc)
      have hp8 := hwF.out
      have hz8 : w3.heap.size ≤ (w7.setCell ⟨w1.heap.size, 1, none⟩ (.slice qa qn qc)).heap.size := by have h1 := hzw.out; have h2 := hs6'.out.size; have h3 := hg7.out.size; simp only [World.setCell, Array.size_modify]; omega
      clear hS6 hS7 hS8 hHeld X61 X71 F71 hd hd2 hSD X1 F1 hrun
      clear hs6 hp6 hq7 hg7 hp7 hwF hX6 hX7 hs6' hX hR hb ho hown hzw
      generalize (w7.setCell ⟨w1.heap.size, 1, none⟩ (.slice qa qn qc)) = wF at *
      have d7 := hp8.reads.cell t _ (ints_at (by omega))
      have d8 := hp8.reads.cell (t + 1) _ (ints_at (by omega))
      have hf := hp8.frozen (i := t) (by simp; omega)
      have hf2 := hp8.frozen (i := t + 1) (by simp; omega)
      have hab := hp8.adr_blk (i := t) (by simp; omega)
      have hab2 := hp8.adr_blk (i := t + 1) (by simp; omega)
      have hne := hp8.adr_ne (i := t) (j := t + 1) (by simp; omega) (by omega)
      have hne2 := hp8.adr_ne (i := t + 1) (j := t) (by simp; omega) (by omega)
      have hst := ((hp8.set (i := t) (by simp; omega) (.int .i64 (nth zz (t + 1)))).set (i := t + 1) (by simp; omega) (.int .i64 (nth zz t))).drew
      rw [ints_set, ints_set] at hst
      have hst2 := hid (show Own _ (w1.heap.size + 1) 2 p (ints (swapAt zz t)) from hst)
      have hq9 := hid ((hq8.other (a := adr p t) (fun e => by have h1 := (hq8.blk_lt e).1; have h2 := (hpb.out _ hab.1).2; omega) (.int .i64 (nth zz (t + 1)))).other (a := adr p (t + 1)) (fun e => by have h1 := (hq8.blk_lt e).1; have h2 := (hpb.out _ hab2.1).2; omega) (.int .i64 (nth zz t))).drew
      have hX9 := hid (((hX8.other (a := adr p t) (by have := hab.2.1; omega) (.int .i64 (nth zz (t + 1)))).other (a := adr p (t + 1)) (by have := hab2.2.1; omega) (.int .i64 (nth zz t))).drew)
      have hR9 := hid (((hR8.other (a := adr p t) (by have := hab.2.1; omega) (.int .i64 (nth zz (t + 1)))).other (a := adr p (t + 1)) (by have := hab2.2.1; omega) (.int .i64 (nth zz t))).drew)
      have hbF := hid (((hbX.out.setCell (p := adr p t) (by have := hab.2.1; omega) (.int .i64 (nth zz (t + 1)))).setCell (p := adr p (t + 1)) (by have := hab2.2.1; omega) (.int .i64 (nth zz t))).drew)
      have hzF := hid (show w3.heap.size ≤ (((wF.setCell (adr p t) (.int .i64 (nth zz (t + 1)))).setCell (adr p (t + 1)) (.int .i64 (nth zz t))).drew).heap.size from by simp only [World.drew, World.setCell, Array.size_modify]; exact hz8)
      have hEF := hid (show (d ++ BL) ++ dwI (l.drop (k + 1)) (swapAt zz t) = dwI l z by rw [List.append_assoc, ← hStep.out]; exact hE.out)
      have hin := hid (show ints (d ++ BL) = ints d ++ ints BL by simp [ints])
      have hlF : (swapAt zz t).length = z.length := by rw [length_swapAt]; exact hzn
      clear hst hab hab2 hp8 hq8 hX8 hR8 hbX hz8 hSum
      go_wp2_with fail
      go_region
      go_wp2_with fail
      go_roundw
      case rel => exact ⟨k + 1, swapAt zz t, d ++ BL, .slice qa qn qc, by omega, by go_num, hSw, hlF, hEF, by rw [List.length_append]; omega, hR9.out, hX9.out, by rw [hin.out]; exact hq9.out, hst2.out, hbF, hzF⟩
      case measure => simp [intOf] <;> omega
    refine AllReadyH.cons (o := { dst := some 59, op := .call { callee := .value (.func 72), args := #[.tmp 45, .tmp 49, .tmp 54, .tmp 58], argTypes := #[2, 2, 2, 2] }, type := _, pos := _, after := _, guard := _ }) rfl (fun KK hKK => ?_) AllReadyH.nil
    refine step_call4 (hC.out _) (fun _ => by kernel_rfl) rfl (.tmp 45) (.tmp 49) (.tmp 54) (.tmp 58) rfl (by simp [Act.eval]) (by simp [Act.eval]) (by simp [Act.eval]) (by simp [Act.eval]) ?_
    rintro e w6 ⟨p6, rfl, hp6, hs6⟩
    refine ⟨_, rfl, ?_⟩
    have hs6' := hid (hbD.out.trans hs6)
    have hX6 := hX.out.below hs6'.out
    have X61 := hX6.cell 1 rfl
    obtain ⟨q, w7, hrun, hq7, hg7⟩ := app_run (ty := 22) sliceI infoI rfl (ho.below hs6'.out) hp6.reads (oneCell_ints _) (Nat.le_trans hzw.out hs6'.out.size) (by simp; omega) (by decide)
    obtain ⟨qa, qn, qc, rfl⟩ := hq7.form3
    have hX7 := hX6.grown hg7 (ho.blk_ne hz3)
    have X71 := hX7.cell 1 rfl
    have F71 := hX7.frozen 1
    have hp7 := (hown.below hs6'.out).keep (w' := w7) fun g hg hgl => hg7.block g hgl (fun e => by have h1 := (ho.blk_lt e.symm).1; have h2 := (hpb.out g hg).2; omega)
    have hwF := hp7.other (a := ⟨w1.heap.size, 1, none⟩) (fun e => by have h2 := (hpb.out _ e).1; simp at h2; omega) (.slice qa qn qc)
    have hS6 := hSx.out w6 (hown.below hs6'.out)
    have hS7 := hSx.out w7 hp7
    have hS8 := hSx.out _ hwF
    replace hs6 := hid hs6
    replace hp6 := hid hp6
    replace hq7 := hid hq7
    replace hg7 := hid hg7
    replace hp7 := hid hp7
    replace hwF := hid hwF
    replace hX6 := hid hX6
    replace hX7 := hid hX7
    refine hKK.out _ _ ?_ (fun hHeld => ?_)
    focus (first | assumption | exact ⟨by assumption, by assumption⟩)
    clear hKK KK
    (try dsimp [Act.put]); (try simp only [List.setIfInBounds_toArray, List.set_cons_zero, List.set_cons_succ])
    refine wpAnyH_ready (rs := [1]) (by kernel_rfl) (by simp) ?_
    refine AllReadyH.cons rfl (fun KK hKK => ?_) AllReadyH.nil
    go_simp
    refine hKK.out _ _ ?_ (fun hHeld => ?_)
    focus (first | assumption | exact ⟨by assumption, by assumption⟩)
    clear hKK KK
    (try dsimp [Act.put]); (try simp only [List.setIfInBounds_toArray, List.set_cons_zero, List.set_cons_succ])
    refine wpAnyH_ready (rs := [20]) (by kernel_rfl) (by simp) ?_
    refine AllReadyH.cons (o := { dst := some 60, op := .call { callee := .builtin .append, args := #[.tmp 41, .tmp 59], argTypes := #[22, 22] }, type := _, pos := _, after := _, guard := _ }) rfl (fun KK hKK => ?_) AllReadyH.nil
    refine step_app hrun rfl (.tmp 41) (.tmp 59) rfl (by simp [Act.eval]) (by simp [Act.eval]) ?_
    refine hKK.out _ _ ?_ (fun hHeld => ?_)
    focus (first | assumption | exact ⟨by assumption, by assumption⟩)
    clear hKK KK
    (try dsimp [Act.put]); (try simp only [List.setIfInBounds_toArray, List.set_cons_zero, List.set_cons_succ])
    refine wpAnyH_take (i := 21) (v := ?_) rfl (by kernel_rfl) (by kernel_rfl) (by kernel_rfl) (fun _ _ _ h => h) (Or.inl ⟨by kernel_rfl, ?_⟩) (by assumption) ?_; rotate_left; (focus ((intro w hSw; (try dsimp only at hSw); go_simp) <;> with_reducible rfl)); (try dsimp [Act.put]); (try simp only [List.setIfInBounds_toArray, List.set_cons_zero, List.set_cons_succ])
    refine wpAnyH_ready (rs := [22]) (by kernel_rfl) (by simp) ?_
    refine AllReadyH.cons rfl (fun KK hKK => ?_) AllReadyH.nil
    go_simp
    refine hKK.out _ _ ?_ (fun hHeld => ?_)
    focus (first | assumption | exact ⟨by assumption, by assumption⟩)
    clear hKK KK
    (try dsimp [Act.put]); (try simp only [List.setIfInBounds_toArray, List.set_cons_zero, List.set_cons_succ])
    refine wpAnyH_done (by kernel_rfl) ?_ _
    refine NoPanic.normal ?_
    have hbX := hid (((hb.out.trans (hs6'.out.mono hzO.out)).grown hg7.out (Nat.le_trans hzO.out hs6'.out.size) (fun j hj => by have h1 := (ho.blk_lt hj).1; omega)).setCell (p := ⟨w1.heap.size, 1, none⟩) (by show w.heap.size ≤ w1.heap.size; omega) (.slice qa qn qc))
    have hX8 := hX7.out.set 1 (.slice qa qn qc)
    have hR8 := ((hR.out.below hs6'.out).grown hg7.out (ho.blk_ne (by omega))).other (a := ⟨w1.heap.size, 1, none⟩) (by show w1.heap.size ≠ w.heap.size + 1; omega) (.slice qa qn qc)
    have hq8 := hq7.out.set_block (g := w1.heap.size) (by omega) 1 (.slice qa qn qc)
    have hp8 := hwF.out
    have hz8 : w3.heap.size ≤ (w7.setCell ⟨w1.heap.size, 1, none⟩ (.slice qa qn qc)).heap.size := by have h1 := hzw.out; have h2 := hs6'.out.size; have h3 := hg7.out.size; simp only [World.setCell, Array.size_modify]; omega
    clear hS6 hS7 hS8 hHeld X61 X71 F71 hd hd2 hSD X1 F1 hrun
    clear hs6 hp6 hq7 hg7 hp7 hwF hX6 hX7 hs6' hX hR hb ho hown hzw
    generalize (w7.setCell ⟨w1.heap.size, 1, none⟩ (.slice qa qn qc)) = wF at *
    have d7 := hp8.reads.cell t _ (ints_at (by omega))
    have d8 := hp8.reads.cell (t + 1) _ (ints_at (by omega))
    have hf := hp8.frozen (i := t) (by simp; omega)
    have hf2 := hp8.frozen (i := t + 1) (by simp; omega)
    have hab := hp8.adr_blk (i := t) (by simp; omega)
    have hab2 := hp8.adr_blk (i := t + 1) (by simp; omega)
    have hne := hp8.adr_ne (i := t) (j := t + 1) (by simp; omega) (by omega)
    have hne2 := hp8.adr_ne (i := t + 1) (j := t) (by simp; omega) (by omega)
    have hst := ((hp8.set (i := t) (by simp; omega) (.int .i64 (nth zz (t + 1)))).set (i := t + 1) (by simp; omega) (.int .i64 (nth zz t))).drew
    rw [ints_set, ints_set] at hst
    have hst2 := hid (show Own _ (w1.heap.size + 1) 2 p (ints (swapAt zz t)) from hst)
    have hq9 := hid ((hq8.other (a := adr p t) (fun e => by have h1 := (hq8.blk_lt e).1; have h2 := (hpb.out _ hab.1).2; omega) (.int .i64 (nth zz (t + 1)))).other (a := adr p (t + 1)) (fun e => by have h1 := (hq8.blk_lt e).1; have h2 := (hpb.out _ hab2.1).2; omega) (.int .i64 (nth zz t))).drew
    have hX9 := hid (((hX8.other (a := adr p t) (by have := hab.2.1; omega) (.int .i64 (nth zz (t + 1)))).other (a := adr p (t + 1)) (by have := hab2.2.1; omega) (.int .i64 (nth zz t))).drew)
    have hR9 := hid (((hR8.other (a := adr p t) (by have := hab.2.1; omega) (.int .i64 (nth zz (t + 1)))).other (a := adr p (t + 1)) (by have := hab2.2.1; omega) (.int .i64 (nth zz t))).drew)
    have hbF := hid (((hbX.out.setCell (p := adr p t) (by have := hab.2.1; omega) (.int .i64 (nth zz (t + 1)))).setCell (p := adr p (t + 1)) (by have := hab2.2.1; omega) (.int .i64 (nth zz t))).drew)
    have hzF := hid (show w3.heap.size ≤ (((wF.setCell (adr p t) (.int .i64 (nth zz (t + 1)))).setCell (adr p (t + 1)) (.int .i64 (nth zz t))).drew).heap.size from by simp only [World.drew, World.setCell, Array.size_modify]; exact hz8)
    have hEF := hid (show (d ++ BL) ++ dwI (l.drop (k + 1)) (swapAt zz t) = dwI l z by rw [List.append_assoc, ← hStep.out]; exact hE.out)
    have hin := hid (show ints (d ++ BL) = ints d ++ ints BL by simp [ints])
    have hlF : (swapAt zz t).length = z.length := by rw [length_swapAt]; exact hzn
    clear hst hab hab2 hp8 hq8 hX8 hR8 hbX hz8 hSum
    go_wp2_with fail
    go_region
    go_wp2_with fail
    go_roundw
    case rel => exact ⟨k + 1, swapAt zz t, d ++ BL, .slice qa qn qc, by omega, by go_num, hSw, hlF, hEF, by rw [List.length_append]; omega, hR9.out, hX9.out, by rw [hin.out]; exact hq9.out, hst2.out, hbF, hzF⟩
    case measure => simp [intOf] <;> omega


end Go.Proofs.Ytoomkkeffejcdaa
