/- Walk of the law on needles, numbers and names of codes. -/
import Derived.Test.YtkgdbobhppmaiaaDoorLd4
import Derived.Test.YtkgdbobhppmaiaaDoorSre
namespace Go.Proofs.YtkgdbobhppmaiaaDoor
open Go.RowKit
open Go.Lib (itoa)

theorem ba_size' (l : List UInt8) : (⟨l.toArray⟩ : ByteArray).size = l.length := by simp [ByteArray.size]
theorem rn_text {b a : Int} (h : needleF b a = true) : rnO (ntL b a) = some (b, a) := by
  obtain ⟨hb, h0, h1⟩ := needle_in h
  have hr := (RdOk.itoa (n := a) (by omega) (by omega)).eq
  unfold ntL
  have key : ∀ c : UInt8, bedOf c = b → (c.toNat = 102 ∨ c.toNat = 98) → rnO (c :: itoa a) = some (b, a) := fun c hc hcc => by
    have := rn_yes (c := c) (r := itoa a) hcc hr.2 (by rw [hc, hr.1]; exact h)
    rw [hc, hr.1] at this
    exact this
  rcases hb with rfl | rfl
  · rw [if_pos rfl]; exact key 102 rfl (.inl rfl)
  · rw [if_neg (show ¬ (2 : Int) = 1 by omega)]; exact key 98 rfl (.inr rfl)
theorem names_all : ∀ k : Fin 13, ∀ i : Fin 13, i.1 < k.1 → (nameF (i.1 : Int)).data ≠ (nameF (k.1 : Int)).data := by decide
theorem names_ne {i k : Nat} (h : i < k) (hk : k ≤ 12) : ¬ nameF (i : Int) = nameF (k : Int) := fun e => names_all ⟨k, by omega⟩ ⟨i, by omega⟩ h (congrArg ByteArray.data e)

set_option maxRecDepth 100000 in
set_option maxHeartbeats 4000000 in
theorem d8at (v : Value) (cs : List Int) (k : Nat) (n : Int) (w : World) (h : Reads w v (bytes cs)) (hr : ∀ i, i < cs.length → 0 ≤ nth cs i ∧ nth cs i ≤ 255) (hk : k ≤ 1000) (hn : 2 ≤ n) (hn2 : n ≤ 1000000) :
    Calls Tryd.prog 29 #[v, .int .i64 (k : Int), .int .i64 n] w fun e w' => ∃ x : Int, e = .returned (.int .i64 x) ∧ 0 ≤ x ∧ x < n ∧ Below w.heap.size w w' := by
  have hlen := h.len (P := Tryd.prog) 46 3 ⟨_, sliceY⟩
  rw [length_bytes] at hlen
  have hs := h.small
  rw [length_bytes] at hs
  by_cases hlt : k < cs.length
  · have hi := h.idx 46 sliceY sizeY .i64 (k : Int) (by omega) (by rw [length_bytes]; omega)
    simp only [Int.toNat_natCast] at hi
    have hc := h.cell k _ (bytes_at hlt)
    have hx := hr k hlt
    by_cases hl2 : k + 1 < cs.length
    · have hi2 := h.idx 46 sliceY sizeY .i64 ((k : Int) + 1) (by omega) (by rw [length_bytes]; omega)
      rw [show ((k : Int) + 1).toNat = k + 1 by omega] at hi2
      have hc2 := h.cell (k + 1) _ (bytes_at hl2)
      have hy := hr (k + 1) hl2
      generalize nth cs k = x at *
      generalize nth cs (k + 1) = y at *
      have hl2' : (k : Int) + 1 < (cs.length : Int) := by omega
      have hm := hid (⟨Int.emod_nonneg (256 * x + y) (show n ≠ 0 by omega), Int.emod_lt_of_pos (256 * x + y) (show 0 < n by omega)⟩ : _ ∧ _)
      clear hr
      go_enter Tryd.func29, Tryd.ntmps29
      go_wp2_with fail
      go_ret
      exact ⟨_, rfl, hm.out.1, hm.out.2, Below.refl _ _⟩
    · generalize nth cs k = x at *
      have hl2' : ¬ (k : Int) + 1 < (cs.length : Int) := by omega
      have hm := hid (⟨Int.emod_nonneg x (show n ≠ 0 by omega), Int.emod_lt_of_pos x (show 0 < n by omega)⟩ : _ ∧ _)
      clear hr
      go_enter Tryd.func29, Tryd.ntmps29
      go_wp2_with fail
      go_ret
      exact ⟨_, rfl, hm.out.1, hm.out.2, Below.refl _ _⟩
  · have hlt' : (cs.length : Int) ≤ (k : Int) := by omega
    clear hr
    go_enter Tryd.func29, Tryd.ntmps29
    go_wp2_with fail
    go_ret
    exact ⟨0, rfl, by omega, by omega, Below.refl _ _⟩

theorem read_text {b a : Int} (hN : needleF b a = true) (w : World) (hT : Tb w) (hE : Er w) :
    Calls Tryd.prog 30 #[.string ⟨(ntL b a).toArray⟩] w fun e w' => e = .returned (.tuple #[.agg #[.int .i64 b, .int .i64 a], .bool true]) ∧ Below w.heap.size w w' := by
  have h := needle_in hN
  have hl := Lib.itoa_length_le a (by omega) (by omega)
  have := ReadNeedleI ⟨(ntL b a).toArray⟩ w (by rw [ba_size']; unfold ntL; simp; omega) hT hE
  have e : (⟨(ntL b a).toArray⟩ : ByteArray).data.toList = ntL b a := rfl
  have hr := rn_some (rn_text hN)
  rw [e, hr.1, hr.2.1, hr.2.2] at this
  exact this
theorem dec_text {x : Int} (h0 : -999999999 ≤ x) (h1 : x ≤ 999999999) (w : World) (hT : Tb w) (hE : Er w) :
    Calls Tryd.prog 28 #[.string ⟨(itoa x).toArray⟩] w fun e w' => e = .returned (.tuple #[.int .i64 x, .bool true]) ∧ Below w.heap.size w w' := by
  have hl := Lib.itoa_length_le x (by omega) (by omega)
  have := ReadDecI ⟨(itoa x).toArray⟩ w (by rw [ba_size']; omega) hT hE
  have e : (⟨(itoa x).toArray⟩ : ByteArray).data.toList = itoa x := rfl
  have hr := (RdOk.itoa h0 h1).eq
  rw [e, hr.1, hr.2] at this
  exact this

set_option maxRecDepth 100000 in
set_option maxHeartbeats 16000000 in
theorem walk_FnNeedles (a0 : Value) (cs : List Int) (W : World) (h0 : Reads W a0 (bytes cs)) (hr : ∀ i, i < cs.length → 0 ≤ nth cs i ∧ nth cs i ≤ 255) (hT : Tb W) (hE : Er W) :
    Calls Tryd.prog 8 #[a0] W fun e w' => e = .returned (.bool true) ∧ Below W.heap.size W w' := by
  have hlen := h0.len (P := Tryd.prog) 46 3 ⟨_, sliceY⟩
  rw [length_bytes] at hlen
  by_cases hl : (1048576 : Int) < cs.length
  · go_enter Tryd.func8, Tryd.ntmps8
    go_wp2_with fail
    go_ret
    exact ⟨rfl, Below.refl _ _⟩
  go_enter Tryd.func8, Tryd.ntmps8
  go_wp2_with fail
  refine (d8at a0 cs 0 2 W h0 hr (by omega) (by omega) (by omega)).mono ?_
  rintro e w1 ⟨x, rfl, hx0, hx1, hs1⟩
  replace h0 := h0.below hs1
  go_wp2_with fail
  refine (d8at a0 cs 1 24 w1 h0 hr (by omega) (by omega) (by omega)).mono ?_
  rintro e w2 ⟨a, rfl, ha0, ha1, hs2⟩
  have hb2 := hs1.trans (hs2.mono hs1.size)
  replace h0 := h0.below hs2
  clear hs1 hs2 hlen hl
  obtain ⟨b, hb12, hbx⟩ : ∃ b : Int, (b = 1 ∨ b = 2) ∧ 1 + x = b := ⟨1 + x, by omega, rfl⟩
  have hN : needleF b a = true := by
    unfold needleF bedF inB
    simp only [Bool.and_eq_true, decide_eq_true_eq]
    omega
  have hrn := rn_some (rn_text hN)
  have hnt : ntF b a = ntL b a := by unfold ntF; rw [hN]; rfl
  have hbl := hb2.alloc hb2.size (.cells #[.int .i64 b, .int .i64 a] 27)
  have hX := Bx.new w2 #[.int .i64 b, .int .i64 a] 27
  replace h0 := h0.below ((Below.refl w2.heap.size w2).alloc (Nat.le_refl _) (.cells #[.int .i64 b, .int .i64 a] 27))
  have c0 := hX.cell 0 rfl
  have c1 := hX.cell 1 rfl
  replace hX := hid hX
  replace hbl := hid hbl
  replace hrn := hid hrn
  replace hnt := hid hnt
  replace hN := hid hN
  replace h0 := hid h0
  clear hb2
  go_wp2_with fail
  refine (NeedleTextI b a _ (hT.below hbl.out)).mono ?_
  rintro e w3 ⟨rfl, hs⟩
  have hb3 := hid (hbl.out.trans (hs.mono hbl.out.size))
  have hX3 := hid (hX.out.below hs)
  have h03 := hid (h0.out.below hs)
  rw [hnt.out]
  clear hs hbl hX h0 c0 c1
  go_wp2_with fail
  refine (read_text hN.out w3 (hT.below hb3.out) (hE.below hb3.out)).mono ?_
  rintro e w4 ⟨rfl, hs⟩
  have hb4 := hb3.out.trans (hs.mono hb3.out.size)
  have hX4 := (hX3.out.below hs).alloc (.cells #[.int .i64 b, .int .i64 a] 27)
  have hY4 := Bx.new w4 #[.int .i64 b, .int .i64 a] 27
  have hb5 := hid (hb4.alloc hb4.size (.cells #[.int .i64 b, .int .i64 a] 27))
  have h05 := hid ((h03.out.below hs).below ((Below.refl w4.heap.size w4).alloc (Nat.le_refl _) (.cells #[.int .i64 b, .int .i64 a] 27)))
  have c0 := hX4.cell 0 rfl
  have c1 := hX4.cell 1 rfl
  have d0 := hY4.cell 0 rfl
  have d1 := hY4.cell 1 rfl
  clear hs hb3 hX3 h03 hb4 hrn hnt
  go_wp2_with fail
  generalize w4.alloc (.cells #[.int .i64 b, .int .i64 a] 27) = w5 at *
  have ho1 : otherF 1 = 2 := rfl
  have ho2 : otherF 2 = 1 := rfl
  have hq := hid (fun (c : Int) (w : World) => other_impl c w)
  clear hX4 hY4
  rcases hb12 with rfl | rfl
  all_goals
    clear hbx
    go_quiet ((go_at_call 31; exact quietS (hq.out _ _)))
    have hbD := hid (below_drewN hb5.out nq)
    have h0D := hid (h05.out.drewN nq)
    generalize w5.drewN nq = w6 at *
    clear hb5 h05 c0 c1 d0 d1 ho1 ho2 hq hN ha0 ha1 hx0 hx1
    go_wp2_with fail
    refine (d8at a0 cs 2 60000 w6 h0D.out hr (by omega) (by omega) (by omega)).mono ?_
    rintro e w7 ⟨y, rfl, hy0, hy1, hs⟩
    have hb7 := hid (hbD.out.trans (hs.mono hbD.out.size))
    clear hs hbD h0D hr
    obtain ⟨z, hz0, hz1, hzy⟩ : ∃ z : Int, -30000 ≤ z ∧ z < 30000 ∧ y - 30000 = z := ⟨y - 30000, by omega, by omega, rfl⟩
    go_wp2_with fail
    refine (DecI z _ (by omega) (by omega) (hT.below hb7.out)).mono ?_
    rintro e w8 ⟨rfl, hs⟩
    have hb8 := hid (hb7.out.trans (hs.mono hb7.out.size))
    clear hs hb7 hzy hy0 hy1
    go_wp2_with fail
    refine (dec_text (by omega) (by omega) _ (hT.below hb8.out) (hE.below hb8.out)).mono ?_
    rintro e w9 ⟨rfl, hs⟩
    have hb9 := hid (hb8.out.trans (hs.mono hb8.out.size))
    clear hs hb8 hz0 hz1
    generalize (⟨(itoa z).toArray⟩ : ByteArray) = S
    go_wp2_with fail
    go_loopw [8, 9] (fun c _ wr => ∃ k : Nat, k ≤ 13 ∧ c = .int .i64 (k : Int) ∧ Below W.heap.size W wr) (fun c _ _ => 13 - (intOf c).toNat)
    case atStart => exact ⟨0, by omega, rfl, hb9.out⟩
    case round =>
      clear hb9
      obtain ⟨k, hk, rfl, hb⟩ := hrel
      by_cases hlt : k ≤ 12
      · have hlt' : (k : Int) ≤ 12 := by omega
        replace hb := hid hb
        go_wp2_with fail
        rename World => wF
        go_loopw [9] (fun c wr => ∃ i : Nat, i ≤ k ∧ c = .int .i64 (i : Int) ∧ Below W.heap.size W wr) (fun c _ => k - (intOf c).toNat)
        case atStart => exact ⟨0, by omega, rfl, hb.out⟩
        case round =>
          clear hb
          obtain ⟨i, hi, rfl, hb⟩ := hrel
          by_cases hlt2 : i < k
          · have hn := names_ne hlt2 hlt
            have hne := str_ne hn
            replace hn := hid hn
            have hC1 := hid (fun w : World => code_impl (i : Int) w)
            have hC2 := hid (fun w : World => code_impl (k : Int) w)
            generalize nameF (i : Int) = A at *
            generalize nameF (k : Int) = B at *
            replace hb := hid hb
            go_wp2_with fail
            refine (hC1.out _).mono ?_
            rintro e wa ⟨rfl, hs⟩
            have hba := hid (hb.out.trans (hs.mono hb.out.size))
            clear hs hb hC1
            go_wp2_with fail
            refine (hC2.out _).mono ?_
            rintro e wb ⟨rfl, hs⟩
            have hbb := hid (hba.out.trans (hs.mono hba.out.size))
            clear hs hba hC2
            go_wp2_with fail
            go_roundw
            case rel => exact ⟨i + 1, by omega, by go_num, hbb.out⟩
            case measure => simp [intOf] <;> omega
          · obtain rfl : i = k := by omega
            replace hb := hid hb
            go_wp2_with fail
            go_roundw
            case rel => exact ⟨i + 1, by omega, by go_num, hb.out⟩
            case measure => simp [intOf] <;> omega
      · obtain rfl : k = 13 := by omega
        replace hb := hid hb
        go_wp2_with fail
        go_ret
        exact ⟨rfl, hb.out⟩


end Go.Proofs.YtkgdbobhppmaiaaDoor
