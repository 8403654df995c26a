/- Results that are only read: slices of slices in an interval of blocks; and normal forms of the call's own. Plain laws of memory. -/
import Derived.Test.YtmeccemnmkobbaaRei
import Derived.Test.YtmeccemnmkobbaaSno
import Derived.Test.YtmeccemnmkobbaaBrd
import Derived.Test.YtmeccemnmkobbaaBre
import Derived.Test.YtmeccemnmkobbaaRwb
import Derived.Test.YtmeccemnmkobbaaBrb
namespace Go.Proofs.Ytmeccemnmkobbaa
open Go.RowKit
open Pm

namespace Gar
variable {G : Type} [DecidableEq G] (g : Gar G)
theorem mult_len (s : G) (L : List G) : (g.mult s L).length ≤ L.length + 1 := by
  induction L generalizing s with
  | nil => unfold mult; split <;> simp
  | cons x L ih => unfold mult; have := ih (g.rm s x); simp only [List.length_cons]; omega
theorem nf_len (w : List G) : (g.nf w).length ≤ w.length := by
  induction w with
  | nil => exact Nat.le_refl _
  | cons s w ih => have := g.mult_len s (g.nf w); show (g.mult s (g.nf w)).length ≤ _; rw [List.length_cons]; omega
theorem NF_len (p : Int) (w : List G) : (g.NF (p, w)).2.length ≤ w.length ∧ p ≤ (g.NF (p, w)).1 ∧ (g.NF (p, w)).1 ≤ p + w.length := by
  obtain ⟨j, h1, h2⟩ := g.norm_split p (g.nf w)
  have h3 := g.nf_len w
  have h4 := congrArg List.length h1
  rw [List.length_append, List.length_replicate] at h4
  show (g.norm (p, g.nf w)).2.length ≤ w.length ∧ p ≤ (g.norm (p, g.nf w)).1 ∧ (g.norm (p, g.nf w)).1 ≤ p + w.length
  omega
end Gar

set_option maxRecDepth 100000 in
set_option maxHeartbeats 8000000 in
theorem normal_impl (n : Nat) (v : Value) (l : List Int) (w : World) (h : Reads w v (ints l)) (hl : l.length ≤ 1000) (hr : ∀ i, i < l.length → nth l i ≠ 0 ∧ 1 - (n : Int) ≤ nth l i ∧ nth l i ≤ n - 1) (hn : n ≤ 12) :
    Calls Try.prog 75 #[.int .i64 (n : Int), v] w fun e w' => ∃ o us, e = .returned (.agg #[.int .i64 n, .int .i64 (nfW n l).1, o]) ∧ NB w' w.heap.size o us (nfW n l).2 ∧ Below w.heap.size w w' := by
  have hs := h.small
  have hlen := h.len (P := Try.prog) 32 3 ⟨_, sliceI⟩
  simp only [length_ints] at hs hlen
  have hA0 := (Bx.new w #[.int .i64 0, .int .i64 0, .slice none 0 0] 27).alloc (.cells #[.int .i64 (n : Int), .int .i64 0, .slice none 0 0] 27)
  have hB0 := Bx.new (w.alloc (.cells #[.int .i64 0, .int .i64 0, .slice none 0 0] 27)) #[.int .i64 (n : Int), .int .i64 0, .slice none 0 0] 27
  have hbox : Below w.heap.size w ((w.alloc (.cells #[.int .i64 0, .int .i64 0, .slice none 0 0] 27)).alloc (.cells #[.int .i64 (n : Int), .int .i64 0, .slice none 0 0] 27)) := ((Below.refl _ _).alloc (Nat.le_refl _) _).alloc (by simp) _
  have hsz2 : ((w.alloc (.cells #[.int .i64 0, .int .i64 0, .slice none 0 0] 27)).alloc (.cells #[.int .i64 (n : Int), .int .i64 0, .slice none 0 0] 27)).heap.size = w.heap.size + 1 + 1 := by simp
  simp only [World.size_alloc] at hB0
  go_enter Try.func75, Try.ntmps75
  go_wp2_with fail
  generalize hW : (w.alloc (.cells #[.int .i64 0, .int .i64 0, .slice none 0 0] 27)).alloc (.cells #[.int .i64 (n : Int), .int .i64 0, .slice none 0 0] 27) = w2 at *
  clear hW
  go_loopw [7, 8, 13] (fun _ _ i wr => ∃ (j : Nat) (o : Value) (us : List Value), j ≤ l.length ∧ i = .int .i64 j ∧ NB wr (w.heap.size + 1 + 1) o us ((gar n).NF (stTo n l j)).2 ∧ Bx wr (w.heap.size + 1) [.int .i64 (n : Int), .int .i64 ((gar n).NF (stTo n l j)).1, o] ∧ Bx wr w.heap.size [.int .i64 0, .int .i64 0, .slice none 0 0] ∧ Below w.heap.size w wr ∧ w.heap.size + 1 + 1 ≤ wr.heap.size) (fun _ _ i _ => l.length - (intOf i).toNat)
  case atStart => exact ⟨0, .slice none 0 0, [], by omega, rfl, NB.nil n _ _, hB0, hA0, hbox, by omega⟩
  case round =>
    clear hA0 hB0
    obtain ⟨j, o, us, hj, rfl, hN, hX, hA, hb, hwz⟩ := hrel
    have hnl := (gar n).NF_len (stTo n l j).1 (stTo n l j).2
    have hstl := stTo_len (n := n) l j
    by_cases hlt : j < l.length
    case pos =>
      have hi := h.idx 32 sliceI sizeI .i64 j (by omega) (by simpa using hlt)
      simp only [Int.toNat_natCast] at hi
      have hc := (h.below hb).int hlt
      obtain ⟨k0, k1, k2⟩ := hr j hlt
      have hst := hid (by rw [stTo_succ (n := n) hlt, ← (gar n).NF_stp] : (gar n).NF (stTo n l (j + 1)) = (gar n).NF ((gar n).stp ((gar n).NF (stTo n l j)) (ltr n (nth l j))))
      replace hr := hid hr
      replace hnl : ((gar n).NF (stTo n l j)).2.length ≤ 1000 ∧ -1000 ≤ ((gar n).NF (stTo n l j)).1 ∧ ((gar n).NF (stTo n l j)).1 ≤ 1000 := by
        have e : ((stTo n l j).1, (stTo n l j).2) = stTo n l j := rfl
        rw [e] at hnl; omega
      clear hstl
      generalize nth l j = k at *
      generalize hx : (gar n).NF (stTo n l j) = x at *
      clear hx
      have habs := hid (fun w => size_impl k w (by omega))
      by_cases hk : 0 < k
      · obtain ⟨m, rfl⟩ : ∃ m : Nat, k = m := ⟨k.toNat, by omega⟩
        have hkn : m < n := by omega
        have ea : absI (m : Int) = m := by unfold absI; rw [if_neg (by omega)]
        rw [ea] at habs
        have hup := hid (stp_up (n := n) hk (by simpa using hkn) x)
        replace hN := hid hN
        replace hX := hid hX
        replace hA := hid hA
        replace hb := hid hb
        clear ea
        go_wp2_with fail
        refine (habs.out _).mono ?_
        rintro e w3 ⟨rfl, rfl⟩
        go_wp2_with fail
        refine (letp_impl hkn (by omega) hn _).mono ?_
        rintro e w4 ⟨y, rfl, hy, hs4⟩
        have hz4 := hs4.size
        have hy := hid hy
        have hs4 := hid hs4
        clear hc
        go_wp2_with fail
        refine (times_impl (w.heap.size + 1) x.1 o y us x.2 (sg n m hkn) w4 (w.heap.size + 1 + 1) (by omega) (by omega) (hX.out.below hs4.out) (hN.out.below hs4.out) hy.out.reads (by omega) (by omega) (by omega) hn).mono ?_
        rintro e w5 ⟨o', us', rfl, hN5, hX5, hb5⟩
        have hz5 := hb5.size
        have hN5 := hid hN5
        have hX5 := hid hX5
        have hb5 := hid hb5
        go_wp2_with fail
        have e1 : (gar n).NF (stTo n l (j + 1)) = (gar n).NF (x.1, x.2 ++ [sg n m hkn]) := by
          rw [hst.out, hup.out]; congr 3; exact congrArg (fun z => [z]) ((gar n).one_mul (sg n m hkn))
        go_roundw
        case rel => exact ⟨j + 1, o', us', by omega, by go_num, by rw [e1]; exact hN5.out, by rw [e1]; exact hX5.out, (hA.out.below hs4.out).belowB hb5.out (by omega), hb.out.trans ((hs4.out.mono (by omega)).trans (hb5.out.mono (by omega))), by omega⟩
        case measure => simp [intOf]; omega
      · obtain ⟨m, rfl⟩ : ∃ m : Nat, k = -(m : Int) := ⟨(-k).toNat, by omega⟩
        have hkn : m < n := by omega
        have ea : absI (-(m : Int)) = m := by unfold absI; rw [if_pos (by omega)]; omega
        rw [ea] at habs
        have hup := hid (stp_down (n := n) (by omega) hkn x)
        replace hN := hid hN
        replace hX := hid hX
        replace hA := hid hA
        replace hb := hid hb
        clear ea
        go_wp2_with fail
        refine (habs.out _).mono ?_
        rintro e w3 ⟨rfl, rfl⟩
        go_wp2_with fail
        refine (letp_impl hkn (by omega) hn _).mono ?_
        rintro e w4 ⟨y, rfl, hy, hs4⟩
        have hz4 := hs4.size
        have hX4 := hX.out.below hs4
        have hc1 := hX4.cell 1 rfl
        have hf1 := hX4.frozen 1
        have hXS := hid (hX4.set 1 (.int .i64 (x.1 - 1)))
        have hAS := hid ((hA.out.below hs4).other (a := ⟨w.heap.size + 1, 1, none⟩) (by simp) (.int .i64 (x.1 - 1)))
        have hNS := hid ((hN.out.below hs4).set_block (g := w.heap.size + 1) (by omega) 1 (.int .i64 (x.1 - 1)))
        have hbS := hid ((hb.out.trans (hs4.mono (by omega))).setCell (p := ⟨w.heap.size + 1, 1, none⟩) (by simp) (.int .i64 (x.1 - 1)))
        have hyS := hid (hy.set_block (g := w.heap.size + 1) (by omega) 1 (.int .i64 (x.1 - 1)))
        have hyo := hid (apart_new' hN.out.own hy)
        have hsz3 : (w4.setCell ⟨w.heap.size + 1, 1, none⟩ (.int .i64 (x.1 - 1))).heap.size = w4.heap.size := by simp [World.setCell]
        clear hc hX4 hy hs4
        go_wp2_with fail
        generalize hWS : w4.setCell ⟨w.heap.size + 1, 1, none⟩ (.int .i64 (x.1 - 1)) = wS at *
        clear hWS hc1 hf1
        refine (flipAll_impl (w.heap.size + 1) (x.1 - 1) o us x.2 wS (w.heap.size + 1 + 1) (by omega) (by omega) hXS.out hNS.out hn).mono ?_
        rintro e w5 ⟨us2, rfl, hN5, hX5, hb5, hg5⟩
        have hz5 := hb5.size
        have hy5 := hid (hyS.out.keep (w' := w5) fun k hk hlt => hg5.block k hlt (fun e => hyo.out k hk e.symm) (fun e => hyo.out k hk e.symm))
        have hA5 := hid (hAS.out.belowB hb5 (by omega))
        have hb5' := hid (hbS.out.trans (hb5.mono (by omega)))
        replace hN5 := hid hN5
        replace hX5 := hid hX5
        clear hb5 hg5 hAS hNS hXS hbS hyS hyo
        go_wp2_with fail
        refine (half_impl (n : Int) _ (by omega) (by omega)).mono ?_
        rintro e w6 ⟨z, rfl, hz, hs6⟩
        rw [Int.toNat_natCast, half_val] at hz
        have hz6 := hs6.size
        have hy6 := hid (hy5.out.below hs6)
        have hzz := hid hz
        replace hs6 := hid hs6
        clear hz
        go_wp2_with fail
        refine (comp_impl z y (top n).1 (sg n m hkn).1 w6 hzz.out.reads hy6.out.reads (by rw [Pm.len]; omega) (fun i hi => by have := Pm.small (top n) i hi; simpa only [Pm.len] using this)).mono ?_
        rintro e w7 ⟨q, rfl, hq, hs7⟩
        rw [comp_val] at hq
        have hz7 := hs7.size
        have hq := hid hq
        replace hs7 := hid hs7
        go_wp2_with fail
        refine (times_impl (w.heap.size + 1) (x.1 - 1) o q us2 (x.2.map (gar n).tau) (mul (top n) (sg n m hkn)) w7 (w.heap.size + 1 + 1) (by omega) (by omega) ((hX5.out.below hs6.out).below hs7.out) ((hN5.out.below hs6.out).below hs7.out) hq.out.reads (by rw [List.length_map]; omega) (by omega) (by omega) hn).mono ?_
        rintro e w8 ⟨o', us', rfl, hN8, hX8, hb8⟩
        have hz8 := hb8.size
        have hN8 := hid hN8
        have hX8 := hid hX8
        have hb8 := hid hb8
        go_wp2_with fail
        have e1 : (gar n).NF (stTo n l (j + 1)) = (gar n).NF (x.1 - 1, x.2.map (gar n).tau ++ [mul (top n) (sg n m hkn)]) := by rw [hst.out, hup.out]
        go_roundw
        case rel => exact ⟨j + 1, o', us', by omega, by go_num, by rw [e1]; exact hN8.out, by rw [e1]; exact hX8.out, ((hA5.out.below hs6.out).below hs7.out).belowB hb8.out (by omega), hb5'.out.trans ((hs6.out.mono (by omega)).trans ((hs7.out.mono (by omega)).trans (hb8.out.mono (by omega)))), by omega⟩
        case measure => simp [intOf]; omega
    case neg =>
      obtain rfl : j = l.length := by omega
      have e : (gar n).NF (stTo n l l.length) = nfW n l := by unfold nfW stTo; rw [List.take_length]
      rw [e] at hN hX
      clear hnl hstl e
      obtain ⟨oa, on, oc, rfl⟩ := own_lit hN.own
      have c0 := hX.cell 0 rfl
      have c1 := hX.cell 1 rfl
      have c2 := hX.cell 2 rfl
      have d0 := hA.cell 0 rfl
      have d1 := hA.cell 1 rfl
      have d2 := hA.cell 2 rfl
      have f0 := hA.frozen 0
      have f1 := hA.frozen 1
      have f2 := hA.frozen 2
      have hE := hid (((hN.set_block (g := w.heap.size) (by omega) 0 (.int .i64 (n : Int))).set_block (g := w.heap.size) (by omega) 1 (.int .i64 (nfW n l).1)).set_block (g := w.heap.size) (by omega) 2 (.slice oa on oc))
      have hEb := hid (((hb.setCell (p := ⟨w.heap.size, 0, none⟩) (Nat.le_refl _) (.int .i64 (n : Int))).setCell (p := ⟨w.heap.size, 1, none⟩) (Nat.le_refl _) (.int .i64 (nfW n l).1)).setCell (p := ⟨w.heap.size, 2, none⟩) (Nat.le_refl _) (.slice oa on oc))
      have hA5 := ((hA.set 0 (.int .i64 (n : Int))).set 1 (.int .i64 (nfW n l).1)).set 2 (.slice oa on oc)
      have a0 := hA5.cell 0 rfl
      have a1 := hA5.cell 1 rfl
      have a2 := hA5.cell 2 rfl
      clear hX hA hA5
      go_wp2_with fail
      refine bodyPost_ret (v := .agg #[.int .i64 (n : Int), .int .i64 (nfW n l).1, .slice oa on oc]) (by simp [a0, a1, a2, results, Try.results75, go_sem]) rfl ⟨_, us, rfl, hE.out.lower (by omega), hEb.out⟩


end Go.Proofs.Ytmeccemnmkobbaa

namespace Go.Proofs.Ytmeccemnmkobbaa
open Go.RowKit
open Pm

/-- a word on n strands -/
def Wok (n : Nat) (l : List Int) : Prop := ∀ i, i < l.length → nth l i ≠ 0 ∧ 1 - (n : Int) ≤ nth l i ∧ nth l i ≤ n - 1
theorem Wok.mem {n : Nat} {l : List Int} (h : Wok n l) {k : Int} (hk : k ∈ l) : k ≠ 0 ∧ 1 - (n : Int) ≤ k ∧ k ≤ n - 1 := by
  obtain ⟨i, hi, e⟩ := List.getElem_of_mem hk
  have := h i hi
  have e2 : nth l i = k := by simp [nth, hi, e]
  rwa [e2] at this
theorem Wok.nil {n : Nat} {l : List Int} (h : Wok n l) (hn : n < 2) : l = [] := by
  cases l with
  | nil => rfl
  | cons k l => have := h 0 (by simp); omega
theorem Wok.app {n : Nat} {l m : List Int} (h : Wok n l) (k : Wok n m) : Wok n (l ++ m) := fun i hi => by
  by_cases e : i < l.length
  · have := h i e; unfold nth at *; rwa [List.getElem?_append_left e]
  · have := k (i - l.length) (by rw [List.length_append] at hi; omega); unfold nth at *; rwa [List.getElem?_append_right (by omega)]
theorem Wok.inv {n : Nat} {l : List Int} (h : Wok n l) : Wok n (invW l) := fun i hi => by
  rw [length_invW] at hi
  rw [nth_invW hi]
  have := h (l.length - 1 - i) (by omega)
  omega
/-- equality of two words as braids, as the reference asks for it -/
theorem eqw_iff {n : Nat} {l m : List Int} (h : Wok n l) (k : Wok n m) : (nfW n (l ++ invW m)).1 = 0 ∧ (nfW n (l ++ invW m)).2.length = 0 ↔ nfW n l = nfW n m := by
  by_cases h2 : n < 2
  · rw [h.nil h2, k.nil h2]
    exact ⟨fun _ => rfl, fun _ => ⟨rfl, rfl⟩⟩
  · have e := (gar n).NF_raw_iff (top_ne_one (by omega)) (lts n l) (lts n m)
    rw [winv_lts n m (fun x hx => (k.mem hx).1), ← lts_append] at e
    unfold nfW
    rw [← e]
    constructor
    · intro ⟨e1, e2⟩
      exact Prod.ext e1 (List.length_eq_zero_iff.1 e2)
    · intro e1
      have e1' : (gar n).NF ((gar n).raw (lts n (l ++ invW m))) = (0, []) := e1
      rw [e1']; exact ⟨rfl, rfl⟩
theorem NB.reads {n : Nat} {w : World} {B : Nat} {o : Value} {us : List Value} {L : List (Pm n)} (h : NB w B o us L) : ReadsII w o (vals L) :=
  ⟨us, h.own.reads, by simpa using h.len, fun i hi => by rw [length_vals] at hi; rw [rat_vals hi]; exact (h.row i hi).reads⟩
theorem vals_inj {n : Nat} {L M : List (Pm n)} : vals L = vals M ↔ L = M :=
  ⟨fun h => List.map_inj_right (fun _ _ e => Subtype.ext e) |>.1 h, fun h => by rw [h]⟩

set_option maxRecDepth 100000 in
set_option maxHeartbeats 4000000 in
theorem eqw_impl (n : Nat) (v u : Value) (l m : List Int) (w : World) (h : Reads w v (ints l)) (h' : Reads w u (ints m)) (hl : l.length ≤ 1000) (hm : m.length ≤ 1000) (hr : Wok n l) (hr' : Wok n m) (hn : n ≤ 12) :
    Calls Try.prog 80 #[.int .i64 (n : Int), v, u] w fun e w' => e = .returned (.bool (decide (nfW n l = nfW n m))) ∧ Below w.heap.size w w' := by
  go_enter Try.func80, Try.ntmps80
  go_wp2_with fail
  refine (normal_impl n v l w h hl hr hn).mono ?_
  rintro e w1 ⟨o1, us1, rfl, hN1, hs1⟩
  replace hN1 := hid hN1
  replace hs1 := hid hs1
  have h1 := hid (h'.below hs1.out)
  go_wp2_with fail
  refine (normal_impl n u m w1 h1.out hm hr' hn).mono ?_
  rintro e w2 ⟨o2, us2, rfl, hN2, hs2⟩
  replace hN2 := hid hN2
  replace hs2 := hid hs2
  go_wp2_with fail
  refine (sn_impl n (nfW n l).1 n (nfW n m).1 o1 o2 (vals (nfW n l).2) (vals (nfW n m).2) w2 (hN1.out.below hs2.out).reads hN2.out.reads).mono ?_
  rintro e w3 ⟨rfl, hs3⟩
  have e : sameN n (nfW n l).1 (vals (nfW n l).2) n (nfW n m).1 (vals (nfW n m).2) = decide (nfW n l = nfW n m) := by
    unfold sameN
    rw [show ((n : Int) == n) = true from by simp, Bool.true_and]
    by_cases e : nfW n l = nfW n m
    · rw [e]; simp
    · rw [decide_eq_false e]
      cases e1 : ((nfW n l).1 == (nfW n m).1) with
      | false => rfl
      | true =>
        rw [Bool.true_and, decide_eq_false]
        intro e2
        exact e (Prod.ext (by simpa using e1) (vals_inj.1 e2))
  rw [e]
  replace hs3 := hid hs3
  have hz1 := hs1.out.size
  have hz2 := hs2.out.size
  go_wp2_with fail
  go_ret
  exact ⟨rfl, hs1.out.trans ((hs2.out.mono hz1).trans (hs3.out.mono (by omega)))⟩

set_option maxRecDepth 100000 in
set_option maxHeartbeats 4000000 in
theorem equal_spec (n : Nat) (v u : Value) (l m : List Int) (w : World) (h : Reads w v (ints l)) (h' : Reads w u (ints m)) (hl : l.length ≤ 500) (hm : m.length ≤ 500) (hr : Wok n l) (hr' : Wok n m) (hn : n ≤ 12) :
    Calls Try.prog 78 #[.int .i64 (n : Int), v, u] w fun e w' => e = .returned (.bool (decide (nfW n l = nfW n m))) ∧ Below w.heap.size w w' := by
  have hq := eqw_iff hr hr'
  go_enter Try.func78, Try.ntmps78
  go_wp2_with fail
  refine (own_copy v l w h (by omega)).mono ?_
  rintro e w1 ⟨a, rfl, ha, hs1⟩
  have h1 := hid (h'.below hs1)
  replace ha := hid ha
  replace hs1 := hid hs1
  have hz1 := hs1.out.size
  go_wp2_with fail
  refine (inv_spec' u m w1 h1.out (by omega) (fun k hk => by have := hr' k hk; omega)).mono ?_
  rintro e w2 ⟨b, rfl, hb, hs2⟩
  have hz2 := hs2.size
  obtain ⟨c, w3, hrun, hc, hg3⟩ := app_run (T := 32) (ty := 32) sliceI infoI rfl (ha.out.below hs2) hb.reads (oneCell_ints _) (by omega) (by simp; omega) (by decide)
  have hs3 := hid ((hs1.out.trans (hs2.mono hz1)).grown hg3 (by omega) (fun j hj => (ha.out.below hs2).blk_lt hj |>.1))
  replace hc := hid hc
  clear hs2 hb hg3 h1 ha hs1
  go_wp2_with (at_builtin; refine wpList_app hrun rfl _ _ rfl rfl rfl ?_)
  have hc' : Reads w3 c (ints (l ++ invW m)) := by have := hc.out.reads; simpa [ints] using this
  clear hrun
  refine (normal_spec n c (l ++ invW m) w3 hc' (by simp; omega) (hr.app hr'.inv) hn).mono ?_
  rintro e w4 ⟨o, us, rfl, ho, hrw, hs4⟩
  have hz3 := hs3.out.size
  have hz4 := hs4.size
  have hul := hrw.rows.len
  rw [length_vals] at hul
  have hfin := hid (hs3.out.trans (hs4.mono hz3))
  obtain ⟨oa, on, oc, rfl⟩ := own_lit ho
  have hX := Bx.new w4 #[.int .i64 n, .int .i64 (nfW n (l ++ invW m)).1, .slice oa on oc] 27
  have c1 := hX.cell 1 rfl
  have c2 := hX.cell 2 rfl
  have hln := ho.reads.len (P := Try.prog) 22 3 ⟨_, sliceII⟩
  rw [hul] at hln
  clear hc hs4 ho hrw hc'
  have hfb := hid ((hfin.out.alloc (by omega) (.cells #[.int .i64 n, .int .i64 (nfW n (l ++ invW m)).1, .slice oa on oc] 27)))
  by_cases e1 : (nfW n (l ++ invW m)).1 = 0
  · by_cases e2 : (nfW n (l ++ invW m)).2.length = 0
    · have hD := decide_eq_true (hq.1 ⟨e1, e2⟩)
      rw [e1] at c1 hfb
      rw [e2] at hln
      rw [e1]
      replace hD := hid hD
      clear hq e1 e2 hX
      go_wp2_with fail
      go_ret
      exact ⟨by rw [hD.out]; rfl, hfb.out⟩
    · have hD := hid (decide_eq_false (fun e => e2 (hq.2 e).2))
      rw [e1] at c1 hfb
      rw [e1]
      have e3 : (((nfW n (l ++ invW m)).2.length : Int) == 0) = false := by rw [beq_eq_false_iff_ne]; omega
      clear hq e1 e2 hX
      go_wp2_with fail
      go_ret
      exact ⟨by rw [hD.out]; rfl, hfb.out⟩
  · have hD := hid (decide_eq_false (fun e => e1 (hq.2 e).1))
    have e3 : ((nfW n (l ++ invW m)).1 == 0) = false := by rw [beq_eq_false_iff_ne]; exact e1
    clear hq e1 hX
    go_wp2_with fail
    go_ret
    exact ⟨by rw [hD.out]; rfl, hfb.out⟩


end Go.Proofs.Ytmeccemnmkobbaa

namespace Go.Proofs.Ytmeccemnmkobbaa
open Go.RowKit
open Pm

def eqBr (n : Int) (l : List Int) (m : Int) (k : List Int) : Bool := okB n l && okB m k && (n == m) && decide (nfW n.toNat l = nfW n.toNat k)
def trivB (n : Int) (l : List Int) : Bool := okB n l && decide (nfW n.toNat l = nfW n.toNat [])
theorem Wok.of {n : Nat} {l : List Int} (h : okB (n : Int) l = true) : Wok n l := fun i hi => (okB_of h).2.2.2 i hi
theorem Wok.empty (n : Nat) : Wok n [] := fun i hi => absurd hi (by simp)
theorem reads_nil (w : World) : Reads w (.slice none 0 0) (ints []) := (Own.nilv w 0 2).reads


set_option maxRecDepth 100000 in
set_option maxHeartbeats 4000000 in
theorem veq_spec (n : Int) (v : Value) (l : List Int) (m : Int) (u : Value) (k : List Int) (w : World) (h : Reads w v (ints l)) (h' : Reads w u (ints k)) :
    Calls Try.prog 34 #[.agg #[.int .i64 n, v], .agg #[.int .i64 m, u]] w fun e w' => e = .returned (.bool (eqBr n l m k)) ∧ Below w.heap.size w w' := by
  have hA0 := (Bx.new w #[.int .i64 n, v] 35).alloc (.cells #[.int .i64 m, u] 35)
  have hB0 := Bx.new (w.alloc (.cells #[.int .i64 n, v] 35)) #[.int .i64 m, u] 35
  have hb0 : Below w.heap.size w ((w.alloc (.cells #[.int .i64 n, v] 35)).alloc (.cells #[.int .i64 m, u] 35)) := ((Below.refl _ _).alloc (Nat.le_refl _) _).alloc (by simp) _
  have hrA := reads_alloc (reads_alloc h (.cells #[.int .i64 n, v] 35)) (.cells #[.int .i64 m, u] 35)
  have hrB := reads_alloc (reads_alloc h' (.cells #[.int .i64 n, v] 35)) (.cells #[.int .i64 m, u] 35)
  simp only [World.size_alloc] at hB0
  go_enter Try.func34, Try.ntmps34
  go_wp2_with fail
  generalize ((w.alloc (.cells #[.int .i64 n, v] 35)).alloc (.cells #[.int .i64 m, u] 35)) = w0 at *
  have A0 := hA0.cell 0 rfl
  have A1 := hA0.cell 1 rfl
  have B0 := hB0.cell 0 rfl
  have B1 := hB0.cell 1 rfl
  go_wp2_with fail
  refine (bok_spec (w.heap.size) 0 n v l _ A0 A1 hrA).mono ?_
  rintro e w1 ⟨rfl, hs1⟩
  have hA1 := hA0.below hs1
  have hB1 := hB0.below hs1
  replace hrA := hrA.below hs1
  replace hrB := hrB.below hs1
  have hb1 := hb0.trans (hs1.mono hb0.size)
  clear hs1 hA0 hB0 hb0 A0 A1 B0 B1
  have A0 := hA1.cell 0 rfl
  have A1 := hA1.cell 1 rfl
  have B0 := hB1.cell 0 rfl
  have B1 := hB1.cell 1 rfl
  cases e1 : okB n l with
  | false =>
    go_wp2_with fail
    go_ret
    exact ⟨by unfold eqBr; rw [e1]; rfl, hb1⟩
  | true =>
  replace e1 := hid e1
  go_wp2_with fail
  refine (bok_spec (w.heap.size + 1) 0 m u k _ B0 B1 hrB).mono ?_
  rintro e w2 ⟨rfl, hs2⟩
  have hA2 := hA1.below hs2
  have hB2 := hB1.below hs2
  replace hrA := hrA.below hs2
  replace hrB := hrB.below hs2
  have hb2 := hb1.trans (hs2.mono hb1.size)
  clear hs2 hA1 hB1 hb1 A0 A1 B0 B1
  have A0 := hA2.cell 0 rfl
  have A1 := hA2.cell 1 rfl
  have B0 := hB2.cell 0 rfl
  have B1 := hB2.cell 1 rfl
  cases e2 : okB m k with
  | false =>
    go_wp2_with fail
    go_ret
    exact ⟨by unfold eqBr; rw [e1.out, e2]; rfl, hb2⟩
  | true =>
  replace e2 := hid e2
  cases e3 : (n == m) with
  | false =>
    go_wp2_with fail
    go_ret
    exact ⟨by unfold eqBr; rw [e1.out, e2.out, e3]; rfl, hb2⟩
  | true =>
  obtain rfl : n = m := by simpa using e3
  obtain ⟨a, rfl⟩ := Int.eq_ofNat_of_zero_le (okB_of e1.out).1
  have q1 := (okB_of e1.out)
  have q2 := (okB_of e2.out)
  obtain ⟨_, q3, q4, -⟩ := q1
  obtain ⟨_, _, q5, -⟩ := q2
  go_wp2_with fail
  refine (equal_spec a v u l k w2 hrA hrB (by omega) (by omega) (Wok.of e1.out) (Wok.of e2.out) (by omega)).mono ?_
  rintro e w3 ⟨rfl, hs3⟩
  have hb3 := hid (hb2.trans (hs3.mono hb2.size))
  go_wp2_with fail
  go_ret
  exact ⟨by unfold eqBr; rw [e1.out, e2.out, e3]; rfl, hb3.out⟩


set_option maxRecDepth 100000 in
set_option maxHeartbeats 4000000 in
theorem veq_impl (n : Int) (v : Value) (l : List Int) (m : Int) (u : Value) (k : List Int) (w : World) (h : Reads w v (ints l)) (h' : Reads w u (ints k)) :
    Calls Try.prog 35 #[.agg #[.int .i64 n, v], .agg #[.int .i64 m, u]] w fun e w' => e = .returned (.bool (eqBr n l m k)) ∧ Below w.heap.size w w' := by
  have hA0 := (Bx.new w #[.int .i64 n, v] 35).alloc (.cells #[.int .i64 m, u] 35)
  have hB0 := Bx.new (w.alloc (.cells #[.int .i64 n, v] 35)) #[.int .i64 m, u] 35
  have hb0 : Below w.heap.size w ((w.alloc (.cells #[.int .i64 n, v] 35)).alloc (.cells #[.int .i64 m, u] 35)) := ((Below.refl _ _).alloc (Nat.le_refl _) _).alloc (by simp) _
  have hrA := reads_alloc (reads_alloc h (.cells #[.int .i64 n, v] 35)) (.cells #[.int .i64 m, u] 35)
  have hrB := reads_alloc (reads_alloc h' (.cells #[.int .i64 n, v] 35)) (.cells #[.int .i64 m, u] 35)
  simp only [World.size_alloc] at hB0
  go_enter Try.func35, Try.ntmps35
  go_wp2_with fail
  generalize ((w.alloc (.cells #[.int .i64 n, v] 35)).alloc (.cells #[.int .i64 m, u] 35)) = w0 at *
  have A0 := hA0.cell 0 rfl
  have A1 := hA0.cell 1 rfl
  have B0 := hB0.cell 0 rfl
  have B1 := hB0.cell 1 rfl
  go_wp2_with fail
  refine (vb_impl n v l _ hrA).mono ?_
  rintro e w1 ⟨rfl, hs1⟩
  have hA1 := hA0.below hs1
  have hB1 := hB0.below hs1
  replace hrA := hrA.below hs1
  replace hrB := hrB.below hs1
  have hb1 := hb0.trans (hs1.mono hb0.size)
  clear hs1 hA0 hB0 hb0 A0 A1 B0 B1
  have A0 := hA1.cell 0 rfl
  have A1 := hA1.cell 1 rfl
  have B0 := hB1.cell 0 rfl
  have B1 := hB1.cell 1 rfl
  cases e1 : okB n l with
  | false =>
    go_wp2_with fail
    go_ret
    exact ⟨by unfold eqBr; rw [e1]; rfl, hb1⟩
  | true =>
  replace e1 := hid e1
  go_wp2_with fail
  refine (vb_impl m u k _ hrB).mono ?_
  rintro e w2 ⟨rfl, hs2⟩
  have hA2 := hA1.below hs2
  have hB2 := hB1.below hs2
  replace hrA := hrA.below hs2
  replace hrB := hrB.below hs2
  have hb2 := hb1.trans (hs2.mono hb1.size)
  clear hs2 hA1 hB1 hb1 A0 A1 B0 B1
  have A0 := hA2.cell 0 rfl
  have A1 := hA2.cell 1 rfl
  have B0 := hB2.cell 0 rfl
  have B1 := hB2.cell 1 rfl
  cases e2 : okB m k with
  | false =>
    go_wp2_with fail
    go_ret
    exact ⟨by unfold eqBr; rw [e1.out, e2]; rfl, hb2⟩
  | true =>
  replace e2 := hid e2
  cases e3 : (n == m) with
  | false =>
    go_wp2_with fail
    go_ret
    exact ⟨by unfold eqBr; rw [e1.out, e2.out, e3]; rfl, hb2⟩
  | true =>
  obtain rfl : n = m := by simpa using e3
  obtain ⟨a, rfl⟩ := Int.eq_ofNat_of_zero_le (okB_of e1.out).1
  have q1 := (okB_of e1.out)
  have q2 := (okB_of e2.out)
  obtain ⟨_, q3, q4, -⟩ := q1
  obtain ⟨_, _, q5, -⟩ := q2
  go_wp2_with fail
  refine (eqw_impl a v u l k w2 hrA hrB (by omega) (by omega) (Wok.of e1.out) (Wok.of e2.out) (by omega)).mono ?_
  rintro e w3 ⟨rfl, hs3⟩
  have hb3 := hid (hb2.trans (hs3.mono hb2.size))
  go_wp2_with fail
  go_ret
  exact ⟨by unfold eqBr; rw [e1.out, e2.out, e3]; rfl, hb3.out⟩


set_option maxRecDepth 100000 in
set_option maxHeartbeats 4000000 in
theorem vtriv_spec (n : Int) (v : Value) (l : List Int) (w : World) (h : Reads w v (ints l)) :
    Calls Try.prog 30 #[.agg #[.int .i64 n, v]] w fun e w' => e = .returned (.bool (trivB n l)) ∧ Below w.heap.size w w' := by
  have hA0 := Bx.new w #[.int .i64 n, v] 35
  have hb0 : Below w.heap.size w (w.alloc (.cells #[.int .i64 n, v] 35)) := (Below.refl _ _).alloc (Nat.le_refl _) _
  have hrA := reads_alloc h (.cells #[.int .i64 n, v] 35)
  go_enter Try.func30, Try.ntmps30
  go_wp2_with fail
  generalize (w.alloc (.cells #[.int .i64 n, v] 35)) = w0 at *
  have A0 := hA0.cell 0 rfl
  have A1 := hA0.cell 1 rfl
  go_wp2_with fail
  refine (bok_spec (w.heap.size) 0 n v l _ A0 A1 hrA).mono ?_
  rintro e w1 ⟨rfl, hs1⟩
  have hA1 := hA0.below hs1
  replace hrA := hrA.below hs1
  have hb1 := hb0.trans (hs1.mono hb0.size)
  clear hs1 hA0 hb0 A0 A1
  have A0 := hA1.cell 0 rfl
  have A1 := hA1.cell 1 rfl
  cases e1 : okB n l with
  | false =>
    go_wp2_with fail
    go_ret
    exact ⟨by unfold trivB; rw [e1]; rfl, hb1⟩
  | true =>
  replace e1 := hid e1
  obtain ⟨a, rfl⟩ := Int.eq_ofNat_of_zero_le (okB_of e1.out).1
  have q1 := (okB_of e1.out)
  obtain ⟨_, q3, q4, -⟩ := q1
  go_wp2_with fail
  refine (equal_spec a v (.slice none 0 0) l [] w1 hrA (reads_nil _) (by omega) (by simp) (Wok.of e1.out) (Wok.empty a) (by omega)).mono ?_
  rintro e w3 ⟨rfl, hs3⟩
  have hb3 := hid (hb1.trans (hs3.mono hb1.size))
  go_wp2_with fail
  go_ret
  exact ⟨by unfold trivB; rw [e1.out]; rfl, hb3.out⟩


set_option maxRecDepth 100000 in
set_option maxHeartbeats 4000000 in
theorem vtriv_impl (n : Int) (v : Value) (l : List Int) (w : World) (h : Reads w v (ints l)) :
    Calls Try.prog 32 #[.agg #[.int .i64 n, v]] w fun e w' => e = .returned (.bool (trivB n l)) ∧ Below w.heap.size w w' := by
  have hA0 := Bx.new w #[.int .i64 n, v] 35
  have hb0 : Below w.heap.size w (w.alloc (.cells #[.int .i64 n, v] 35)) := (Below.refl _ _).alloc (Nat.le_refl _) _
  have hrA := reads_alloc h (.cells #[.int .i64 n, v] 35)
  go_enter Try.func32, Try.ntmps32
  go_wp2_with fail
  generalize (w.alloc (.cells #[.int .i64 n, v] 35)) = w0 at *
  have A0 := hA0.cell 0 rfl
  have A1 := hA0.cell 1 rfl
  go_wp2_with fail
  refine (vb_impl n v l _ hrA).mono ?_
  rintro e w1 ⟨rfl, hs1⟩
  have hA1 := hA0.below hs1
  replace hrA := hrA.below hs1
  have hb1 := hb0.trans (hs1.mono hb0.size)
  clear hs1 hA0 hb0 A0 A1
  have A0 := hA1.cell 0 rfl
  have A1 := hA1.cell 1 rfl
  cases e1 : okB n l with
  | false =>
    go_wp2_with fail
    go_ret
    exact ⟨by unfold trivB; rw [e1]; rfl, hb1⟩
  | true =>
  replace e1 := hid e1
  obtain ⟨a, rfl⟩ := Int.eq_ofNat_of_zero_le (okB_of e1.out).1
  have q1 := (okB_of e1.out)
  obtain ⟨_, q3, q4, -⟩ := q1
  go_wp2_with fail
  refine (eqw_impl a v (.slice none 0 0) l [] w1 hrA (reads_nil _) (by omega) (by simp) (Wok.of e1.out) (Wok.empty a) (by omega)).mono ?_
  rintro e w3 ⟨rfl, hs3⟩
  have hb3 := hid (hb1.trans (hs3.mono hb1.size))
  go_wp2_with fail
  go_ret
  exact ⟨by unfold trivB; rw [e1.out]; rfl, hb3.out⟩


end Go.Proofs.Ytmeccemnmkobbaa

namespace Go.Proofs.Ytmeccemnmkobbaa
open Go.RowKit
open Pm

/-- v reads as rows of numbers, all of it in blocks from lo on and below hi -/
structure RdR (w : World) (lo hi : Nat) (v : Value) (vs : List Value) (ls : List (List Int)) : Prop where
  rd : Reads w v vs
  rows : RowsR w vs ls
  out : ∀ k, blk v = some k → lo ≤ k ∧ k < hi
  inn : ∀ i, i < ls.length → ∀ k, blk (vat vs i) = some k → lo ≤ k ∧ k < hi
def RdII (w : World) (lo hi : Nat) (v : Value) (ls : List (List Int)) : Prop := ∃ vs, RdR w lo hi v vs ls
theorem RdII.reads {w : World} {lo hi : Nat} {v : Value} {ls : List (List Int)} (h : RdII w lo hi v ls) : ReadsII w v ls := by
  obtain ⟨vs, h⟩ := h
  exact ⟨vs, h.rd, h.rows⟩
theorem RdII.below {w w' : World} {lo hi : Nat} {v : Value} {ls : List (List Int)} (h : RdII w lo hi v ls) (hb : Below w.heap.size w w') : RdII w' lo hi v ls := by
  obtain ⟨vs, h⟩ := h
  exact ⟨vs, h.rd.below hb, h.rows.below hb, h.out, h.inn⟩
theorem RdII.alloc {w : World} {lo hi : Nat} {v : Value} {ls : List (List Int)} (h : RdII w lo hi v ls) (o : Obj) : RdII (w.alloc o) lo hi v ls := h.below ((Below.refl _ _).alloc (Nat.le_refl _) o)
theorem RdII.gri {w w' : World} {lo hi lo' hi' : Nat} {v : Value} {ls : List (List Int)} (h : RdII w lo' hi' v ls) (hg : GrI w w' lo hi) (hd : hi' ≤ lo ∨ hi ≤ lo') : RdII w' lo' hi' v ls := by
  obtain ⟨vs, h⟩ := h
  exact ⟨vs, hg.reads h.rd fun k hk => by have := h.out k hk; omega, ⟨h.rows.len, fun i hi => hg.reads (h.rows.row i hi) fun k hk => by have := h.inn i hi k hk; omega⟩, h.out, h.inn⟩
theorem RdII.widen {w : World} {lo lo' hi hi' : Nat} {v : Value} {ls : List (List Int)} (h : RdII w lo hi v ls) (hl : lo' ≤ lo) (hh : hi ≤ hi') : RdII w lo' hi' v ls := by
  obtain ⟨vs, h⟩ := h
  exact ⟨vs, h.rd, h.rows, fun k hk => by have := h.out k hk; omega, fun i hi k hk => by have := h.inn i hi k hk; omega⟩
theorem RdII.lower {w : World} {lo lo' hi : Nat} {v : Value} {ls : List (List Int)} (h : RdII w lo hi v ls) (hl : lo' ≤ lo) : RdII w lo' hi v ls := h.widen hl (Nat.le_refl _)
theorem RdII.form3 {w : World} {lo hi : Nat} {v : Value} {ls : List (List Int)} (h : RdII w lo hi v ls) : ∃ a n c, v = .slice a n c := by
  obtain ⟨vs, h⟩ := h
  obtain ⟨a, c, rfl, -⟩ := h.rd.form
  exact ⟨a, _, c, rfl⟩
theorem RdII.form {w : World} {lo hi : Nat} {v : Value} {ls : List (List Int)} (h : RdII w lo hi v ls) : ∃ a n c, v = .slice a n c := h.form3
theorem RdII.setAt {w : World} {lo hi : Nat} {v : Value} {ls : List (List Int)} (h : RdII w lo hi v ls) {g : Nat} (hg : g < lo) (i : Nat) (x : Value) : RdII (w.setCell ⟨g, i, none⟩ x) lo hi v ls := by
  obtain ⟨vs, h⟩ := h
  exact ⟨vs, h.rd.keep fun k hk _ => Below.heap_setCell _ _ _ _ (fun e => by have := h.out k hk; simp at e; omega), ⟨h.rows.len, fun i hi => (h.rows.row i hi).keep fun k hk _ => Below.heap_setCell _ _ _ _ (fun e => by have := h.inn i hi k hk; simp at e; omega)⟩, h.out, h.inn⟩
theorem RdII.topped {w : World} {lo hi hi' : Nat} {v : Value} {ls : List (List Int)} (h : RdII w lo hi v ls) (hh : hi ≤ hi') : RdII w lo hi' v ls := h.widen (Nat.le_refl _) hh
theorem RdII.lowered {w : World} {lo lo' hi hi' : Nat} {v : Value} {ls : List (List Int)} (h : RdII w lo hi v ls) (hl : lo' ≤ lo) (hh : hi ≤ hi' := by simp [World.setCell]) : RdII w lo' hi' v ls := h.widen hl hh
theorem RdII.of {w : World} {lo B : Nat} {e : TypeId} {v : Value} {vs : List Value} {ls : List (List Int)} (h : Own w B e v vs) (hr : RowsB w lo vs ls) (hB : lo ≤ B) : RdII w lo w.heap.size v ls :=
  ⟨vs, h.reads, hr.rows, fun k hk => by have := h.blk_lt hk; omega, fun i hi k hk => hr.blks i hi k hk⟩
theorem RdII.empty (w : World) (lo hi : Nat) : RdII w lo hi (.slice none 0 0) [] :=
  ⟨[], (Own.nilv w 0 32).reads, ⟨rfl, fun i hi => absurd hi (by simp)⟩, fun k hk => by simp [blk] at hk, fun i hi => absurd hi (by simp)⟩
theorem OwnII.setAt {w : World} {lo hi : Nat} {eo ei : TypeId} {v : Value} {ls : List (List Int)} (h : OwnII w lo hi eo ei v ls) {g : Nat} (hg : g < lo) (i : Nat) (x : Value) : OwnII (w.setCell ⟨g, i, none⟩ x) lo hi eo ei v ls := by
  obtain ⟨vs, h⟩ := h
  exact ⟨vs, h.keep fun _ _ _ k => k.setAt hg i x⟩
theorem OwnII.topped {w : World} {lo hi hi' : Nat} {eo ei : TypeId} {v : Value} {ls : List (List Int)} (h : OwnII w lo hi eo ei v ls) (hh : hi ≤ hi') : OwnII w lo hi' eo ei v ls := h.widen (Nat.le_refl _) hh
theorem OwnII.lowered {w : World} {lo lo' hi hi' : Nat} {eo ei : TypeId} {v : Value} {ls : List (List Int)} (h : OwnII w lo hi eo ei v ls) (hl : lo' ≤ lo) (hh : hi ≤ hi' := by simp [World.setCell]) : OwnII w lo' hi' eo ei v ls := h.widen hl hh
theorem OwnII.empty (w : World) (lo hi : Nat) : OwnII w lo hi 32 2 (.slice none 0 0) [] :=
  ⟨[], ⟨Own.nilv _ _ _, fun k hk => by simp [blk] at hk⟩, rfl, fun i hi => absurd hi (by simp), fun i j _ hj => absurd hj (by simp), fun i hi => absurd hi (by simp)⟩
theorem NB.ownII {n : Nat} {w : World} {B : Nat} {o : Value} {us : List Value} {L : List (Pm n)} (h : NB w B o us L) : OwnII w B w.heap.size 32 2 o (vals L) :=
  ⟨us, ⟨h.own, fun k hk => (h.own.blk_lt hk).2⟩, by simpa using h.len, fun i hi => by rw [length_vals] at hi; rw [rat_vals hi]; exact ⟨h.row i hi, fun k hk => ((h.row i hi).blk_lt hk).2⟩,
    fun i j hij hj => by rw [length_vals] at hj; exact h.apart i j (by omega) (by omega) hj, fun i hi => by rw [length_vals] at hi; exact h.outer i hi⟩

def nfN (n : Int) (l : List Int) : Int := if okB n l then n else 0
def nfP (n : Int) (l : List Int) : Int := if okB n l then (nfW n.toNat l).1 else 0
def nfL (n : Int) (l : List Int) : List (List Int) := if okB n l then vals (nfW n.toNat l).2 else []
theorem nfW_len (n : Nat) (l : List Int) : (nfW n l).2.length ≤ l.length ∧ -(l.length : Int) ≤ (nfW n l).1 ∧ (nfW n l).1 ≤ l.length := by
  have e : nfW n l = (gar n).NF ((stTo n l l.length).1, (stTo n l l.length).2) := by unfold nfW stTo; rw [List.take_length]
  have h1 := (gar n).NF_len (stTo n l l.length).1 (stTo n l l.length).2
  have h2 := stTo_len (n := n) l l.length
  rw [← e] at h1
  omega
theorem nfL_tot (n : Int) (l : List Int) : tot (nfL n l) ≤ 480 := by
  unfold nfL
  split
  · rename_i h
    obtain ⟨h0, h1, h2, -⟩ := okB_of h
    rw [tot_vals]
    have := (nfW_len n.toNat l).1
    have h5 : n.toNat ≤ 12 := by omega
    have h6 : (nfW n.toNat l).2.length ≤ 40 := by omega
    have := Nat.mul_le_mul h5 h6
    omega
  · simp [tot]


set_option maxRecDepth 100000 in
set_option maxHeartbeats 4000000 in
theorem vnf_spec (n : Int) (v : Value) (l : List Int) (w : World) (h : Reads w v (ints l)) :
    Calls Try.prog 47 #[.agg #[.int .i64 n, v]] w fun e w' => ∃ x, e = .returned (.tuple #[.agg #[.int .i64 (nfN n l), .int .i64 (nfP n l), x], .bool (okB n l)]) ∧ RdII w' w.heap.size w'.heap.size x (nfL n l) ∧ Below w.heap.size w w' := by
  have hA0 := (Bx.new w #[.int .i64 n, v] 35).alloc (.cells #[.int .i64 0, .int .i64 0, .slice none 0 0] 27)
  have hR0 := Bx.new (w.alloc (.cells #[.int .i64 n, v] 35)) #[.int .i64 0, .int .i64 0, .slice none 0 0] 27
  have hb0 : Below w.heap.size w ((w.alloc (.cells #[.int .i64 n, v] 35)).alloc (.cells #[.int .i64 0, .int .i64 0, .slice none 0 0] 27)) := ((Below.refl _ _).alloc (Nat.le_refl _) _).alloc (by simp) _
  have hrA := reads_alloc (reads_alloc h (.cells #[.int .i64 n, v] 35)) (.cells #[.int .i64 0, .int .i64 0, .slice none 0 0] 27)
  have hsz0 : ((w.alloc (.cells #[.int .i64 n, v] 35)).alloc (.cells #[.int .i64 0, .int .i64 0, .slice none 0 0] 27)).heap.size = w.heap.size + 1 + 1 := by simp
  simp only [World.size_alloc] at hR0
  go_enter Try.func47, Try.ntmps47
  go_wp2_with fail
  generalize ((w.alloc (.cells #[.int .i64 n, v] 35)).alloc (.cells #[.int .i64 0, .int .i64 0, .slice none 0 0] 27)) = w0 at *
  have A0 := hA0.cell 0 rfl
  have A1 := hA0.cell 1 rfl
  go_wp2_with fail
  refine (bok_spec (w.heap.size) 0 n v l _ A0 A1 hrA).mono ?_
  rintro e w1 ⟨rfl, hs1⟩
  have hA1 := hA0.below hs1
  have hR1 := hR0.below hs1
  replace hrA := hrA.below hs1
  have hb1 := hb0.trans (hs1.mono hb0.size)
  have hsz1 := hs1.size
  clear hs1 hA0 hR0 hb0 A0 A1
  have A0 := hA1.cell 0 rfl
  have A1 := hA1.cell 1 rfl
  cases e1 : okB n l with
  | false =>
    have R0 := hR1.cell 0 rfl
    have R1 := hR1.cell 1 rfl
    have R2 := hR1.cell 2 rfl
    have F0 := hR1.frozen 0
    have F1 := hR1.frozen 1
    have F2 := hR1.frozen 2
    have g5 := ((hR1.set 0 (.int .i64 0)).set 1 (.int .i64 0)).set 2 (.slice none 0 0)
    have g0 := g5.cell 0 rfl
    have g1 := g5.cell 1 rfl
    have g2 := g5.cell 2 rfl
    go_wp2_with fail
    refine bodyPost_ret (v := .tuple #[.agg #[.int .i64 0, .int .i64 0, .slice none 0 0], .bool false]) (by simp [g0, g1, g2, results, Try.results47, go_sem]) rfl ⟨_, by unfold nfN nfP; rw [e1]; rfl, by unfold nfL; rw [e1]; exact RdII.empty _ _ _, ((hb1.setCell (by simp) _).setCell (by simp) _).setCell (by simp) _⟩
  | true =>
  replace e1 := hid e1
  obtain ⟨a, rfl⟩ := Int.eq_ofNat_of_zero_le (okB_of e1.out).1
  have q1 := (okB_of e1.out)
  obtain ⟨_, q3, q4, -⟩ := q1
  have hR1' := hid hR1
  have hb1' := hid hb1
  clear hR1 hb1
  go_wp2_with fail
  refine (normal_spec a v l w1 hrA (by omega) (Wok.of e1.out) (by omega)).mono ?_
  rintro e w3 ⟨o, us, rfl, ho, hrw, hs3⟩
  obtain ⟨oa, on, oc, rfl⟩ := own_lit ho
  have hO := RdII.of ho hrw (Nat.le_refl _)
  have hR3 := hR1'.out.below hs3
  have hb3 := hid (hb1'.out.trans (hs3.mono hb1'.out.size))
  have hsz3 := hs3.size
  have R0 := hR3.cell 0 rfl
  have R1 := hR3.cell 1 rfl
  have R2 := hR3.cell 2 rfl
  have F0 := hR3.frozen 0
  have F1 := hR3.frozen 1
  have F2 := hR3.frozen 2
  have g5 := ((hR3.set 0 (.int .i64 a)).set 1 (.int .i64 (nfW a l).1)).set 2 (.slice oa on oc)
  have g0 := g5.cell 0 rfl
  have g1 := g5.cell 1 rfl
  have g2 := g5.cell 2 rfl
  have hE := hid ((((hO.setAt (g := w.heap.size + 1) (by omega) 0 (.int .i64 a)).setAt (g := w.heap.size + 1) (by omega) 1 (.int .i64 (nfW a l).1)).setAt (g := w.heap.size + 1) (by omega) 2 (.slice oa on oc)).lowered (lo' := w.heap.size) (hi' := w3.heap.size) (by omega) (Nat.le_refl _))
  clear hs3 hO hR3 g5 ho hrw
  go_wp2_with fail
  refine bodyPost_ret (v := .tuple #[.agg #[.int .i64 a, .int .i64 (nfW a l).1, .slice oa on oc], .bool true]) (by simp [g0, g1, g2, results, Try.results47, go_sem]) rfl ⟨.slice oa on oc, by unfold nfN nfP; rw [e1.out]; rfl, ?_, ((hb3.out.setCell (by simp) _).setCell (by simp) _).setCell (by simp) _⟩
  unfold nfL
  rw [e1.out]
  exact hE.out.topped (by simp [World.setCell])


set_option maxRecDepth 100000 in
set_option maxHeartbeats 4000000 in
theorem vnf_impl (n : Int) (v : Value) (l : List Int) (w : World) (h : Reads w v (ints l)) :
    Calls Try.prog 26 #[.agg #[.int .i64 n, v]] w fun e w' => ∃ x, e = .returned (.tuple #[.agg #[.int .i64 (nfN n l), .int .i64 (nfP n l), x], .bool (okB n l)]) ∧ OwnII w' w.heap.size w'.heap.size 32 2 x (nfL n l) ∧ Below w.heap.size w w' := by
  have hA0 := (Bx.new w #[.int .i64 n, v] 35).alloc (.cells #[.int .i64 0, .int .i64 0, .slice none 0 0] 27)
  have hR0 := Bx.new (w.alloc (.cells #[.int .i64 n, v] 35)) #[.int .i64 0, .int .i64 0, .slice none 0 0] 27
  have hb0 : Below w.heap.size w ((w.alloc (.cells #[.int .i64 n, v] 35)).alloc (.cells #[.int .i64 0, .int .i64 0, .slice none 0 0] 27)) := ((Below.refl _ _).alloc (Nat.le_refl _) _).alloc (by simp) _
  have hrA := reads_alloc (reads_alloc h (.cells #[.int .i64 n, v] 35)) (.cells #[.int .i64 0, .int .i64 0, .slice none 0 0] 27)
  have hsz0 : ((w.alloc (.cells #[.int .i64 n, v] 35)).alloc (.cells #[.int .i64 0, .int .i64 0, .slice none 0 0] 27)).heap.size = w.heap.size + 1 + 1 := by simp
  simp only [World.size_alloc] at hR0
  go_enter Try.func26, Try.ntmps26
  go_wp2_with fail
  generalize ((w.alloc (.cells #[.int .i64 n, v] 35)).alloc (.cells #[.int .i64 0, .int .i64 0, .slice none 0 0] 27)) = w0 at *
  have A0 := hA0.cell 0 rfl
  have A1 := hA0.cell 1 rfl
  go_wp2_with fail
  refine (vb_impl n v l _ hrA).mono ?_
  rintro e w1 ⟨rfl, hs1⟩
  have hA1 := hA0.below hs1
  have hR1 := hR0.below hs1
  replace hrA := hrA.below hs1
  have hb1 := hb0.trans (hs1.mono hb0.size)
  have hsz1 := hs1.size
  clear hs1 hA0 hR0 hb0 A0 A1
  have A0 := hA1.cell 0 rfl
  have A1 := hA1.cell 1 rfl
  cases e1 : okB n l with
  | false =>
    have R0 := hR1.cell 0 rfl
    have R1 := hR1.cell 1 rfl
    have R2 := hR1.cell 2 rfl
    have F0 := hR1.frozen 0
    have F1 := hR1.frozen 1
    have F2 := hR1.frozen 2
    have g5 := ((hR1.set 0 (.int .i64 0)).set 1 (.int .i64 0)).set 2 (.slice none 0 0)
    have g0 := g5.cell 0 rfl
    have g1 := g5.cell 1 rfl
    have g2 := g5.cell 2 rfl
    go_wp2_with fail
    refine bodyPost_ret (v := .tuple #[.agg #[.int .i64 0, .int .i64 0, .slice none 0 0], .bool false]) (by simp [g0, g1, g2, results, Try.results26, go_sem]) rfl ⟨_, by unfold nfN nfP; rw [e1]; rfl, by unfold nfL; rw [e1]; exact OwnII.empty _ _ _, ((hb1.setCell (by simp) _).setCell (by simp) _).setCell (by simp) _⟩
  | true =>
  replace e1 := hid e1
  obtain ⟨a, rfl⟩ := Int.eq_ofNat_of_zero_le (okB_of e1.out).1
  have q1 := (okB_of e1.out)
  obtain ⟨_, q3, q4, -⟩ := q1
  have hR1' := hid hR1
  have hb1' := hid hb1
  clear hR1 hb1
  go_wp2_with fail
  refine (normal_impl a v l w1 hrA (by omega) (Wok.of e1.out) (by omega)).mono ?_
  rintro e w3 ⟨o, us, rfl, hN, hs3⟩
  obtain ⟨oa, on, oc, rfl⟩ := own_lit hN.own
  have hO := hN.ownII
  have hR3 := hR1'.out.below hs3
  have hb3 := hid (hb1'.out.trans (hs3.mono hb1'.out.size))
  have hsz3 := hs3.size
  have R0 := hR3.cell 0 rfl
  have R1 := hR3.cell 1 rfl
  have R2 := hR3.cell 2 rfl
  have F0 := hR3.frozen 0
  have F1 := hR3.frozen 1
  have F2 := hR3.frozen 2
  have g5 := ((hR3.set 0 (.int .i64 a)).set 1 (.int .i64 (nfW a l).1)).set 2 (.slice oa on oc)
  have g0 := g5.cell 0 rfl
  have g1 := g5.cell 1 rfl
  have g2 := g5.cell 2 rfl
  have hE := hid ((((hO.setAt (g := w.heap.size + 1) (by omega) 0 (.int .i64 a)).setAt (g := w.heap.size + 1) (by omega) 1 (.int .i64 (nfW a l).1)).setAt (g := w.heap.size + 1) (by omega) 2 (.slice oa on oc)).lowered (lo' := w.heap.size) (hi' := w3.heap.size) (by omega) (Nat.le_refl _))
  clear hs3 hO hR3 g5 hN
  go_wp2_with fail
  refine bodyPost_ret (v := .tuple #[.agg #[.int .i64 a, .int .i64 (nfW a l).1, .slice oa on oc], .bool true]) (by simp [g0, g1, g2, results, Try.results26, go_sem]) rfl ⟨.slice oa on oc, by unfold nfN nfP; rw [e1.out]; rfl, ?_, ((hb3.out.setCell (by simp) _).setCell (by simp) _).setCell (by simp) _⟩
  unfold nfL
  rw [e1.out]
  exact hE.out.topped (by simp [World.setCell])


end Go.Proofs.Ytmeccemnmkobbaa
