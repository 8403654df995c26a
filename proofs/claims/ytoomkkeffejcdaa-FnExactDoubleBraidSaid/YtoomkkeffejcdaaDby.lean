/- Contracts: doubled braids (the reference's side). -/
import Derived.Test.YtoomkkeffejcdaaDbx
namespace Go.Proofs.Ytoomkkeffejcdaa
open Go.RowKit
open Pm

theorem codeD_bad {n : Int} {l z : List Int} (h : okD n l z = false) : codeD n l z = 1 := by unfold codeD; rw [h]; rfl
theorem codeD_rng {n : Int} {l z : List Int} (h : okD n l z = true) (h2 : szsB z = false) : codeD n l z = 2 := by unfold codeD; rw [h, h2]; rfl
theorem codeD_full {n : Int} {l z : List Int} (h : okD n l z = true) (h2 : szsB z = true) (h3 : ¬ (sumF z ≤ 12 ∧ (dwI l z).length ≤ 40)) : codeD n l z = 5 := by unfold codeD; rw [h, h2, if_neg h3]; rfl
theorem codeD_ok {n : Int} {l z : List Int} (h : okD n l z = true) (h2 : szsB z = true) (h3 : sumF z ≤ 12 ∧ (dwI l z).length ≤ 40) : codeD n l z = 0 := by unfold codeD; rw [h, h2, if_pos h3]; rfl
theorem okD_no1 {n : Int} {l z : List Int} (h : okB n l = false) : okD n l z = false := by unfold okD; rw [h]; rfl
theorem okD_no2 {n : Int} {l z : List Int} (h : ¬ (z.length : Int) = n) : okD n l z = false := by unfold okD; rw [decide_eq_false h, Bool.and_false]
theorem okD_yes {n : Int} {l z : List Int} (h : okB n l = true) (h2 : (z.length : Int) = n) : okD n l z = true := by unfold okD; rw [h, decide_eq_true h2]; rfl
theorem nD_no {n : Int} {l z : List Int} {c : Int} (h : codeD n l z = c) (h0 : c ≠ 0) : nD n l z = 0 := by unfold nD; rw [h, if_neg h0]
theorem lD_no {n : Int} {l z : List Int} {c : Int} (h : codeD n l z = c) (h0 : c ≠ 0) : lD n l z = [] := by unfold lD; rw [h, if_neg h0]
theorem nD_yes {n : Int} {l z : List Int} (h : codeD n l z = 0) : nD n l z = sumF z := by unfold nD; rw [h]; rfl
theorem lD_yes {n : Int} {l z : List Int} (h : codeD n l z = 0) : lD n l z = dwI l z := by unfold lD; rw [h]; rfl
theorem szs_no {z : List Int} {k : Nat} (hk : k < z.length) (h : inB (nth z k) 0 4 = false) : szsB z = false := by
  cases e : szsB z with
  | false => rfl
  | true =>
    unfold szsB at e
    rw [List.all_eq_true] at e
    have := e k (by simpa using hk)
    rw [h] at this; cases this
theorem szs_yes {z : List Int} (h : ∀ j, j < z.length → inB (nth z j) 0 4 = true) : szsB z = true := by
  unfold szsB
  rw [List.all_eq_true]
  intro j hj
  exact h j (by simpa using hj)
theorem sum_bdB {z : List Int} {k : Nat} (h : ∀ j, j < k → inB (nth z j) 0 4 = true) : 0 ≤ sumTo (fun i => nth z i) k ∧ sumTo (fun i => nth z i) k ≤ 4 * k := by
  have h1 := sumTo_nonneg (f := fun i => nth z i) (k := k) fun i hi => (inB_yes' (h i hi)).1
  have h2 := sumTo_le (f := fun i => nth z i) (k := k) (b := 4) fun i hi => (inB_yes' (h i hi)).2
  omega
theorem okB_lv {n : Nat} {l : List Int} (h : okB (n : Int) l = true) : ∀ k ∈ l, Lv n k := by
  unfold okB at h
  simp only [Bool.and_eq_true] at h
  exact lv_letters h.2


set_option maxHeartbeats 8000000 in
theorem DoubleS (n : Int) (v : Value) (l : List Int) (u : Value) (z : List Int) (w : World) (h : Reads w v (ints l)) (h' : Reads w u (ints z)) :
    Calls Try.prog 40 #[.agg #[.int .i64 n, v], u] w fun e w' => ∃ x, e = .returned (.tuple #[.agg #[.int .i64 (nD n l z), x], .int .i64 (codeD n l z)]) ∧ Own w' w.heap.size 2 x (ints (lD n l z)) ∧ Below w.heap.size w w' := by
  have hs' := h'.small
  have hlen := h'.len (P := Try.prog) 22 3 ⟨_, sliceI⟩
  simp only [length_ints] at hlen hs'
  have hA0 := Bx.alloc (Bx.new w #[.int .i64 n, v] 27) (.cells #[.int .i64 0, .slice none 0 0] 27)
  have hR0 := Bx.new (w.alloc (.cells #[.int .i64 n, v] 27)) #[.int .i64 0, .slice none 0 0] 27
  have hr0 := reads_alloc (reads_alloc h (.cells #[.int .i64 n, v] 27)) (.cells #[.int .i64 0, .slice none 0 0] 27)
  have hu0 := reads_alloc (reads_alloc h' (.cells #[.int .i64 n, v] 27)) (.cells #[.int .i64 0, .slice none 0 0] 27)
  have hb0 : Below w.heap.size w ((w.alloc (.cells #[.int .i64 n, v] 27)).alloc (.cells #[.int .i64 0, .slice none 0 0] 27)) := ((Below.refl _ _).alloc (Nat.le_refl _) _).alloc (by simp) _
  have A00 := hA0.cell 0 rfl
  have A01 := hA0.cell 1 rfl
  go_enter Try.func40, Try.ntmps40
  go_wp2_with fail
  refine (bok_spec w.heap.size 0 n v l _ A00 A01 hr0).mono ?_
  rintro e w1 ⟨rfl, hs1⟩
  have hb1 := hb0.trans (hs1.mono hb0.size)
  have hA1 := hA0.below hs1
  have hR1 := hR0.below hs1
  have hr1 := hr0.below hs1
  have hu1 := hu0.below hs1
  have hz1 := hR1.lt
  simp only [World.size_alloc] at hz1 hA1 hR1
  clear hs1 hb0 hA0 hR0 hr0 hu0 A00 A01
  have A10 := hA1.cell 0 rfl
  have A11 := hA1.cell 1 rfl
  have R10 := hR1.cell 0 rfl
  have R11 := hR1.cell 1 rfl
  have F10 := hR1.frozen 0
  have F11 := hR1.frozen 1
  have g5 := (hR1.set 0 (.int .i64 0)).set 1 (.slice none 0 0)
  have g50 := g5.cell 0 rfl
  have g51 := g5.cell 1 rfl
  have hbF := hid ((hb1.setCell (p := ⟨w.heap.size + 1, 0, none⟩) (by simp) (.int .i64 0)).setCell (p := ⟨w.heap.size + 1, 1, none⟩) (by simp) (.slice none 0 0))
  clear g5
  cases e1 : okB n l with
  | false =>
    have hcode := hid (codeD_bad (okD_no1 (z := z) e1))
    go_wp2_with fail
    refine bodyPost_ret (v := .tuple #[.agg #[.int .i64 0, .slice none 0 0], .int .i64 1]) (by simp [g50, g51, results, Try.results40, go_sem]) rfl ⟨_, by rw [hcode.out, nD_no hcode.out (by decide)], by rw [lD_no hcode.out (by decide)]; exact own_nilB _ _ _, hbF.out⟩
  | true =>
  obtain ⟨q0, q1, q2, -⟩ := okB_of e1
  by_cases hzn : (z.length : Int) = n
  case neg =>
    have hne : ((z.length : Int) != n) = true := by simpa [bne_iff_ne] using hzn
    have hcode := hid (codeD_bad (okD_no2 (l := l) hzn))
    clear hzn
    go_wp2_with fail
    refine bodyPost_ret (v := .tuple #[.agg #[.int .i64 0, .slice none 0 0], .int .i64 1]) (by simp [g50, g51, results, Try.results40, go_sem]) rfl ⟨_, by rw [hcode.out, nD_no hcode.out (by decide)], by rw [lD_no hcode.out (by decide)]; exact own_nilB _ _ _, hbF.out⟩
  case pos =>
  have hne : ((z.length : Int) != n) = false := by simp [bne, hzn]
  have hok := hid (okD_yes e1 hzn)
  have hlv := hid (show ∀ k ∈ l, Lv z.length k from okB_lv (by rw [hzn]; exact e1))
  have hz12 : z.length ≤ 12 := by omega
  have hzn' := hid hzn
  clear hzn
  go_wp2_with fail
  clear hne
  go_loop [6, 7] (fun s i => ∃ k : Nat, k ≤ z.length ∧ i = .int .i64 k ∧ s = .int .i64 (sumTo (fun i => nth z i) k) ∧ Hid (∀ j, j < k → inB (nth z j) 0 4 = true)) (fun _ i => z.length - (intOf i).toNat)
  case atStart => exact ⟨0, by omega, rfl, rfl, hid fun j hj => absurd hj (by omega)⟩
  case round =>
    obtain ⟨k, hk, rfl, rfl, hS⟩ := hrel
    have hsz := sum_bdB hS.out
    by_cases hlt : k < z.length
    case pos =>
      have hi := h'.idx (P := Try.prog) 22 sliceI sizeI .i64 k (by omega) (by simpa using hlt)
      simp only [Int.toNat_natCast] at hi
      have hc := hu1.int hlt
      have hn := hid (sumTo_succ (fun i => nth z i) k)
      cases e2 : inB (nth z k) 0 4 with
      | false =>
        have hcode := hid (codeD_rng hok.out (szs_no hlt e2))
        generalize sumTo (fun i => nth z i) k = s at *
        generalize nth z k = a at *
        go_wp2_with (go_at_call 60; refine (in_spec _ _ _ _).mono ?_; rintro e w2 ⟨rfl, rfl⟩; rw [e2])
        refine bodyPost_ret (v := .tuple #[.agg #[.int .i64 0, .slice none 0 0], .int .i64 2]) (by simp [g50, g51, results, Try.results40, go_sem]) rfl ⟨_, by rw [hcode.out, nD_no hcode.out (by decide)], by rw [lD_no hcode.out (by decide)]; exact own_nilB _ _ _, hbF.out⟩
      | true =>
        have hS2 := hid (forall_snoc hS.out e2)
        have ha := inB_yes' e2
        generalize sumTo (fun i => nth z i) k = s at *
        generalize nth z k = a at *
        go_wp2_with (go_at_call 60; refine (in_spec _ _ _ _).mono ?_; rintro e w2 ⟨rfl, rfl⟩; rw [e2])
        go_round
        case rel => exact ⟨k + 1, by omega, by go_num, by rw [hn.out], hS2⟩
        case measure => simp [intOf] <;> omega
    case neg =>
    obtain rfl : k = z.length := by omega
    have hzs := szs_yes hS.out
    have hZ := hid (szsB_iff.1 hzs)
    replace hzs := hid hzs
    have hsum : sumTo (fun i => nth z i) z.length = sumF z := rfl
    rw [hsum] at hsz ⊢
    have hokw := hid (okB_dw (l := l) rfl hlv.out hZ.out)
    clear hsum
    obtain ⟨S, hSe⟩ : ∃ S, sumF z = S := ⟨_, rfl⟩
    rw [hSe] at hsz ⊢
    have hokw := hid (show okB S (dwI l z) = decide (S ≤ 12 ∧ (dwI l z).length ≤ 40) by rw [← hSe]; exact hokw.out)
    replace hSe := hid hSe
    go_wp2_with fail
    refine (double_spec v u l z z.length w1 hr1 hu1 hz12 rfl hZ.out q2 hlv.out).mono ?_
    rintro e w2 ⟨x, rfl, hx, hb2⟩
    obtain ⟨xa, xn, xc, rfl⟩ := hx.form3
    have hbx := hb1.trans (hb2.mono hb1.size)
    have hA2 := (hA1.below hb2).alloc (.cells #[.int .i64 S, .slice xa xn xc] 27)
    have hR2 := (hR1.below hb2).alloc (.cells #[.int .i64 S, .slice xa xn xc] 27)
    have hX2 := Bx.new w2 #[.int .i64 S, .slice xa xn xc] 27
    have hx2 := own_alloc hx (.cells #[.int .i64 S, .slice xa xn xc] 27)
    have hbx2 := hbx.alloc hbx.size (.cells #[.int .i64 S, .slice xa xn xc] 27)
    have hz12' := hb2.size
    clear g50 g51 hbF A10 A11 R10 R11 F10 F11 hA1 hR1 hr1 hu1 hx hbx hb2 hb1
    have X0 := hX2.cell 0 rfl
    have X1 := hX2.cell 1 rfl
    replace hx2 := hid hx2
    replace hbx2 := hid hbx2
    go_wp2_with fail
    refine (bok_spec w2.heap.size 0 S (.slice xa xn xc) (dwI l z) _ X0 X1 hx2.out.reads).mono ?_
    rintro e w3 ⟨rfl, hs3⟩
    have hR3 := hR2.below hs3
    have hX3 := hX2.below hs3
    have hx3 := hid (hx2.out.below hs3)
    have hb3 := hid (hbx2.out.trans (hs3.mono hbx2.out.size))
    clear X0 X1 hA2 hR2 hX2 hs3 hx2 hbx2
    have R30 := hR3.cell 0 rfl
    have R31 := hR3.cell 1 rfl
    have F30 := hR3.frozen 0
    have F31 := hR3.frozen 1
    have X30 := hX3.cell 0 rfl
    have X31 := hX3.cell 1 rfl
    rw [hokw.out]
    by_cases h12 : S ≤ 12 ∧ (dwI l z).length ≤ 40
    case neg =>
      have hcode := hid (codeD_full hok.out hzs.out (by rw [hSe.out]; exact h12))
      have g5 := (hR3.set 0 (.int .i64 0)).set 1 (.slice none 0 0)
      have g50 := g5.cell 0 rfl
      have g51 := g5.cell 1 rfl
      rw [decide_eq_false h12]
      clear h12
      go_wp2_with fail
      refine bodyPost_ret (v := .tuple #[.agg #[.int .i64 0, .slice none 0 0], .int .i64 5]) (by simp [g50, g51, results, Try.results40, go_sem]) rfl ⟨_, by rw [hcode.out, nD_no hcode.out (by decide)], by rw [lD_no hcode.out (by decide)]; exact own_nilB _ _ _, (hb3.out.setCell (p := ⟨w.heap.size + 1, 0, none⟩) (by simp) (.int .i64 0)).setCell (p := ⟨w.heap.size + 1, 1, none⟩) (by simp) (.slice none 0 0)⟩
    case pos =>
      have hcode := hid (codeD_ok hok.out hzs.out (by rw [hSe.out]; exact h12))
      have g5 := (hR3.set 0 (.int .i64 S)).set 1 (.slice xa xn xc)
      have g50 := g5.cell 0 rfl
      have g51 := g5.cell 1 rfl
      rw [decide_eq_true h12]
      clear h12
      go_wp2_with fail
      refine bodyPost_ret (v := .tuple #[.agg #[.int .i64 S, .slice xa xn xc], .int .i64 0]) (by simp [g50, g51, results, Try.results40, go_sem]) rfl ⟨_, by rw [hcode.out, nD_yes hcode.out, hSe.out], ?_, (hb3.out.setCell (p := ⟨w.heap.size + 1, 0, none⟩) (by simp) (.int .i64 S)).setCell (p := ⟨w.heap.size + 1, 1, none⟩) (by simp) (.slice xa xn xc)⟩
      rw [lD_yes hcode.out]
      have t1 := hx3.out.set_block (g := w.heap.size + 1) (by omega) 0 (.int .i64 S)
      have t2 := t1.set_block (g := w.heap.size + 1) (by omega) 1 (.slice xa xn xc)
      exact t2.mono (by omega)


end Go.Proofs.Ytoomkkeffejcdaa
