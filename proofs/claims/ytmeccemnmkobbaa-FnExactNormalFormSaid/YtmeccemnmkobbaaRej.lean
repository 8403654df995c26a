/- Contracts: the normal form of a word, and whether two words are equal as braids, in the program. -/
import Derived.Test.YtmeccemnmkobbaaRei
import Derived.Test.YtmeccemnmkobbaaSno
import Derived.Test.YtmeccemnmkobbaaBrd
namespace Go.Proofs.Ytmeccemnmkobbaa
open Go.RowKit
open Pm

namespace Gar
variable {G : Type} [DecidableEq G] (g : Gar G)
theorem mult_len (s : G) (L : List G) : (g.mult s L).length ≤ L.length + 1 := by
  induction L generalizing s with
  | nil => unfold mult; split <;> simp
  | cons x L ih => unfold mult; have := ih (g.rm s x); simp only [List.length_cons]; omega
theorem nf_len (w : List G) : (g.nf w).length ≤ w.length := by
  induction w with
  | nil => exact Nat.le_refl _
  | cons s w ih => have := g.mult_len s (g.nf w); show (g.mult s (g.nf w)).length ≤ _; rw [List.length_cons]; omega
theorem NF_len (p : Int) (w : List G) : (g.NF (p, w)).2.length ≤ w.length ∧ p ≤ (g.NF (p, w)).1 ∧ (g.NF (p, w)).1 ≤ p + w.length := by
  obtain ⟨j, h1, h2⟩ := g.norm_split p (g.nf w)
  have h3 := g.nf_len w
  have h4 := congrArg List.length h1
  rw [List.length_append, List.length_replicate] at h4
  show (g.norm (p, g.nf w)).2.length ≤ w.length ∧ p ≤ (g.norm (p, g.nf w)).1 ∧ (g.norm (p, g.nf w)).1 ≤ p + w.length
  omega
end Gar

set_option maxRecDepth 100000 in
set_option maxHeartbeats 8000000 in
theorem normal_impl (n : Nat) (v : Value) (l : List Int) (w : World) (h : Reads w v (ints l)) (hl : l.length ≤ 1000) (hr : ∀ i, i < l.length → nth l i ≠ 0 ∧ 1 - (n : Int) ≤ nth l i ∧ nth l i ≤ n - 1) (hn : n ≤ 12) :
    Calls Try.prog 75 #[.int .i64 (n : Int), v] w fun e w' => ∃ o us, e = .returned (.agg #[.int .i64 n, .int .i64 (nfW n l).1, o]) ∧ NB w' w.heap.size o us (nfW n l).2 ∧ Below w.heap.size w w' := by
  have hs := h.small
  have hlen := h.len (P := Try.prog) 32 3 ⟨_, sliceI⟩
  simp only [length_ints] at hs hlen
  have hA0 := (Bx.new w #[.int .i64 0, .int .i64 0, .slice none 0 0] 27).alloc (.cells #[.int .i64 (n : Int), .int .i64 0, .slice none 0 0] 27)
  have hB0 := Bx.new (w.alloc (.cells #[.int .i64 0, .int .i64 0, .slice none 0 0] 27)) #[.int .i64 (n : Int), .int .i64 0, .slice none 0 0] 27
  have hbox : Below w.heap.size w ((w.alloc (.cells #[.int .i64 0, .int .i64 0, .slice none 0 0] 27)).alloc (.cells #[.int .i64 (n : Int), .int .i64 0, .slice none 0 0] 27)) := ((Below.refl _ _).alloc (Nat.le_refl _) _).alloc (by simp) _
  have hsz2 : ((w.alloc (.cells #[.int .i64 0, .int .i64 0, .slice none 0 0] 27)).alloc (.cells #[.int .i64 (n : Int), .int .i64 0, .slice none 0 0] 27)).heap.size = w.heap.size + 1 + 1 := by simp
  simp only [World.size_alloc] at hB0
  go_enter Try.func75, Try.ntmps75
  go_wp2_with fail
  generalize hW : (w.alloc (.cells #[.int .i64 0, .int .i64 0, .slice none 0 0] 27)).alloc (.cells #[.int .i64 (n : Int), .int .i64 0, .slice none 0 0] 27) = w2 at *
  clear hW
  go_loopw [7, 8, 13] (fun _ _ i wr => ∃ (j : Nat) (o : Value) (us : List Value), j ≤ l.length ∧ i = .int .i64 j ∧ NB wr (w.heap.size + 1 + 1) o us ((gar n).NF (stTo n l j)).2 ∧ Bx wr (w.heap.size + 1) [.int .i64 (n : Int), .int .i64 ((gar n).NF (stTo n l j)).1, o] ∧ Bx wr w.heap.size [.int .i64 0, .int .i64 0, .slice none 0 0] ∧ Below w.heap.size w wr ∧ w.heap.size + 1 + 1 ≤ wr.heap.size) (fun _ _ i _ => l.length - (intOf i).toNat)
  case atStart => exact ⟨0, .slice none 0 0, [], by omega, rfl, NB.nil n _ _, hB0, hA0, hbox, by omega⟩
  case round =>
    clear hA0 hB0
    obtain ⟨j, o, us, hj, rfl, hN, hX, hA, hb, hwz⟩ := hrel
    have hnl := (gar n).NF_len (stTo n l j).1 (stTo n l j).2
    have hstl := stTo_len (n := n) l j
    by_cases hlt : j < l.length
    case pos =>
      have hi := h.idx 32 sliceI sizeI .i64 j (by omega) (by simpa using hlt)
      simp only [Int.toNat_natCast] at hi
      have hc := (h.below hb).int hlt
      obtain ⟨k0, k1, k2⟩ := hr j hlt
      have hst := hid (by rw [stTo_succ (n := n) hlt, ← (gar n).NF_stp] : (gar n).NF (stTo n l (j + 1)) = (gar n).NF ((gar n).stp ((gar n).NF (stTo n l j)) (ltr n (nth l j))))
      replace hr := hid hr
      replace hnl : ((gar n).NF (stTo n l j)).2.length ≤ 1000 ∧ -1000 ≤ ((gar n).NF (stTo n l j)).1 ∧ ((gar n).NF (stTo n l j)).1 ≤ 1000 := by
        have e : ((stTo n l j).1, (stTo n l j).2) = stTo n l j := rfl
        rw [e] at hnl; omega
      clear hstl
      generalize nth l j = k at *
      generalize hx : (gar n).NF (stTo n l j) = x at *
      clear hx
      have habs := hid (fun w => size_impl k w (by omega))
      by_cases hk : 0 < k
      · obtain ⟨m, rfl⟩ : ∃ m : Nat, k = m := ⟨k.toNat, by omega⟩
        have hkn : m < n := by omega
        have ea : absI (m : Int) = m := by unfold absI; rw [if_neg (by omega)]
        rw [ea] at habs
        have hup := hid (stp_up (n := n) hk (by simpa using hkn) x)
        replace hN := hid hN
        replace hX := hid hX
        replace hA := hid hA
        replace hb := hid hb
        clear ea
        go_wp2_with fail
        refine (habs.out _).mono ?_
        rintro e w3 ⟨rfl, rfl⟩
        go_wp2_with fail
        refine (letp_impl hkn (by omega) hn _).mono ?_
        rintro e w4 ⟨y, rfl, hy, hs4⟩
        have hz4 := hs4.size
        have hy := hid hy
        have hs4 := hid hs4
        clear hc
        go_wp2_with fail
        refine (times_impl (w.heap.size + 1) x.1 o y us x.2 (sg n m hkn) w4 (w.heap.size + 1 + 1) (by omega) (by omega) (hX.out.below hs4.out) (hN.out.below hs4.out) hy.out.reads (by omega) (by omega) (by omega) hn).mono ?_
        rintro e w5 ⟨o', us', rfl, hN5, hX5, hb5⟩
        have hz5 := hb5.size
        have hN5 := hid hN5
        have hX5 := hid hX5
        have hb5 := hid hb5
        go_wp2_with fail
        have e1 : (gar n).NF (stTo n l (j + 1)) = (gar n).NF (x.1, x.2 ++ [sg n m hkn]) := by
          rw [hst.out, hup.out]; congr 3; exact congrArg (fun z => [z]) ((gar n).one_mul (sg n m hkn))
        go_roundw
        case rel => exact ⟨j + 1, o', us', by omega, by go_num, by rw [e1]; exact hN5.out, by rw [e1]; exact hX5.out, (hA.out.below hs4.out).belowB hb5.out (by omega), hb.out.trans ((hs4.out.mono (by omega)).trans (hb5.out.mono (by omega))), by omega⟩
        case measure => simp [intOf]; omega
      · obtain ⟨m, rfl⟩ : ∃ m : Nat, k = -(m : Int) := ⟨(-k).toNat, by omega⟩
        have hkn : m < n := by omega
        have ea : absI (-(m : Int)) = m := by unfold absI; rw [if_pos (by omega)]; omega
        rw [ea] at habs
        have hup := hid (stp_down (n := n) (by omega) hkn x)
        replace hN := hid hN
        replace hX := hid hX
        replace hA := hid hA
        replace hb := hid hb
        clear ea
        go_wp2_with fail
        refine (habs.out _).mono ?_
        rintro e w3 ⟨rfl, rfl⟩
        go_wp2_with fail
        refine (letp_impl hkn (by omega) hn _).mono ?_
        rintro e w4 ⟨y, rfl, hy, hs4⟩
        have hz4 := hs4.size
        have hX4 := hX.out.below hs4
        have hc1 := hX4.cell 1 rfl
        have hf1 := hX4.frozen 1
        have hXS := hid (hX4.set 1 (.int .i64 (x.1 - 1)))
        have hAS := hid ((hA.out.below hs4).other (a := ⟨w.heap.size + 1, 1, none⟩) (by simp) (.int .i64 (x.1 - 1)))
        have hNS := hid ((hN.out.below hs4).set_block (g := w.heap.size + 1) (by omega) 1 (.int .i64 (x.1 - 1)))
        have hbS := hid ((hb.out.trans (hs4.mono (by omega))).setCell (p := ⟨w.heap.size + 1, 1, none⟩) (by simp) (.int .i64 (x.1 - 1)))
        have hyS := hid (hy.set_block (g := w.heap.size + 1) (by omega) 1 (.int .i64 (x.1 - 1)))
        have hyo := hid (apart_new' hN.out.own hy)
        have hsz3 : (w4.setCell ⟨w.heap.size + 1, 1, none⟩ (.int .i64 (x.1 - 1))).heap.size = w4.heap.size := by simp [World.setCell]
        clear hc hX4 hy hs4
        go_wp2_with fail
        generalize hWS : w4.setCell ⟨w.heap.size + 1, 1, none⟩ (.int .i64 (x.1 - 1)) = wS at *
        clear hWS hc1 hf1
        refine (flipAll_impl (w.heap.size + 1) (x.1 - 1) o us x.2 wS (w.heap.size + 1 + 1) (by omega) (by omega) hXS.out hNS.out hn).mono ?_
        rintro e w5 ⟨us2, rfl, hN5, hX5, hb5, hg5⟩
        have hz5 := hb5.size
        have hy5 := hid (hyS.out.keep (w' := w5) fun k hk hlt => hg5.block k hlt (fun e => hyo.out k hk e.symm) (fun e => hyo.out k hk e.symm))
        have hA5 := hid (hAS.out.belowB hb5 (by omega))
        have hb5' := hid (hbS.out.trans (hb5.mono (by omega)))
        replace hN5 := hid hN5
        replace hX5 := hid hX5
        clear hb5 hg5 hAS hNS hXS hbS hyS hyo
        go_wp2_with fail
        refine (half_impl (n : Int) _ (by omega) (by omega)).mono ?_
        rintro e w6 ⟨z, rfl, hz, hs6⟩
        rw [Int.toNat_natCast, half_val] at hz
        have hz6 := hs6.size
        have hy6 := hid (hy5.out.below hs6)
        have hzz := hid hz
        replace hs6 := hid hs6
        clear hz
        go_wp2_with fail
        refine (comp_impl z y (top n).1 (sg n m hkn).1 w6 hzz.out.reads hy6.out.reads (by rw [Pm.len]; omega) (fun i hi => by have := Pm.small (top n) i hi; simpa only [Pm.len] using this)).mono ?_
        rintro e w7 ⟨q, rfl, hq, hs7⟩
        rw [comp_val] at hq
        have hz7 := hs7.size
        have hq := hid hq
        replace hs7 := hid hs7
        go_wp2_with fail
        refine (times_impl (w.heap.size + 1) (x.1 - 1) o q us2 (x.2.map (gar n).tau) (mul (top n) (sg n m hkn)) w7 (w.heap.size + 1 + 1) (by omega) (by omega) ((hX5.out.below hs6.out).below hs7.out) ((hN5.out.below hs6.out).below hs7.out) hq.out.reads (by rw [List.length_map]; omega) (by omega) (by omega) hn).mono ?_
        rintro e w8 ⟨o', us', rfl, hN8, hX8, hb8⟩
        have hz8 := hb8.size
        have hN8 := hid hN8
        have hX8 := hid hX8
        have hb8 := hid hb8
        go_wp2_with fail
        have e1 : (gar n).NF (stTo n l (j + 1)) = (gar n).NF (x.1 - 1, x.2.map (gar n).tau ++ [mul (top n) (sg n m hkn)]) := by rw [hst.out, hup.out]
        go_roundw
        case rel => exact ⟨j + 1, o', us', by omega, by go_num, by rw [e1]; exact hN8.out, by rw [e1]; exact hX8.out, ((hA5.out.below hs6.out).below hs7.out).belowB hb8.out (by omega), hb5'.out.trans ((hs6.out.mono (by omega)).trans ((hs7.out.mono (by omega)).trans (hb8.out.mono (by omega)))), by omega⟩
        case measure => simp [intOf]; omega
    case neg =>
      obtain rfl : j = l.length := by omega
      have e : (gar n).NF (stTo n l l.length) = nfW n l := by unfold nfW stTo; rw [List.take_length]
      rw [e] at hN hX
      clear hnl hstl e
      obtain ⟨oa, on, oc, rfl⟩ := own_lit hN.own
      have c0 := hX.cell 0 rfl
      have c1 := hX.cell 1 rfl
      have c2 := hX.cell 2 rfl
      have d0 := hA.cell 0 rfl
      have d1 := hA.cell 1 rfl
      have d2 := hA.cell 2 rfl
      have f0 := hA.frozen 0
      have f1 := hA.frozen 1
      have f2 := hA.frozen 2
      have hE := hid (((hN.set_block (g := w.heap.size) (by omega) 0 (.int .i64 (n : Int))).set_block (g := w.heap.size) (by omega) 1 (.int .i64 (nfW n l).1)).set_block (g := w.heap.size) (by omega) 2 (.slice oa on oc))
      have hEb := hid (((hb.setCell (p := ⟨w.heap.size, 0, none⟩) (Nat.le_refl _) (.int .i64 (n : Int))).setCell (p := ⟨w.heap.size, 1, none⟩) (Nat.le_refl _) (.int .i64 (nfW n l).1)).setCell (p := ⟨w.heap.size, 2, none⟩) (Nat.le_refl _) (.slice oa on oc))
      have hA5 := ((hA.set 0 (.int .i64 (n : Int))).set 1 (.int .i64 (nfW n l).1)).set 2 (.slice oa on oc)
      have a0 := hA5.cell 0 rfl
      have a1 := hA5.cell 1 rfl
      have a2 := hA5.cell 2 rfl
      clear hX hA hA5
      go_wp2_with fail
      refine bodyPost_ret (v := .agg #[.int .i64 (n : Int), .int .i64 (nfW n l).1, .slice oa on oc]) (by simp [a0, a1, a2, results, Try.results75, go_sem]) rfl ⟨_, us, rfl, hE.out.lower (by omega), hEb.out⟩


end Go.Proofs.Ytmeccemnmkobbaa
