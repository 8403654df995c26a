/- Contracts: joined normal forms, in the reference. -/
import Derived.Test.YtmeccemnmkobbaaRei
import Derived.Test.YtmeccemnmkobbaaSno
import Derived.Test.YtmeccemnmkobbaaBrd
import Derived.Test.YtmeccemnmkobbaaBre
import Derived.Test.YtmeccemnmkobbaaRwb
import Derived.Test.YtmeccemnmkobbaaBrb
import Derived.Test.YtmeccemnmkobbaaRed
import Derived.Test.YtmeccemnmkobbaaRwc
import Derived.Test.YtmeccemnmkobbaaDel
namespace Go.Proofs.Ytmeccemnmkobbaa
open Go.RowKit
open Pm

namespace Gar
variable {G : Type} [DecidableEq G] (g : Gar G)
theorem mult_len (s : G) (L : List G) : (g.mult s L).length ≤ L.length + 1 := by
  induction L generalizing s with
  | nil => unfold mult; split <;> simp
  | cons x L ih => unfold mult; have := ih (g.rm s x); simp only [List.length_cons]; omega
theorem nf_len (w : List G) : (g.nf w).length ≤ w.length := by
  induction w with
  | nil => exact Nat.le_refl _
  | cons s w ih => have := g.mult_len s (g.nf w); show (g.mult s (g.nf w)).length ≤ _; rw [List.length_cons]; omega
theorem NF_len (p : Int) (w : List G) : (g.NF (p, w)).2.length ≤ w.length ∧ p ≤ (g.NF (p, w)).1 ∧ (g.NF (p, w)).1 ≤ p + w.length := by
  obtain ⟨j, h1, h2⟩ := g.norm_split p (g.nf w)
  have h3 := g.nf_len w
  have h4 := congrArg List.length h1
  rw [List.length_append, List.length_replicate] at h4
  show (g.norm (p, g.nf w)).2.length ≤ w.length ∧ p ≤ (g.norm (p, g.nf w)).1 ∧ (g.norm (p, g.nf w)).1 ≤ p + w.length
  omega
end Gar

set_option maxRecDepth 100000 in
set_option maxHeartbeats 8000000 in
theorem normal_impl (n : Nat) (v : Value) (l : List Int) (w : World) (h : Reads w v (ints l)) (hl : l.length ≤ 1000) (hr : ∀ i, i < l.length → nth l i ≠ 0 ∧ 1 - (n : Int) ≤ nth l i ∧ nth l i ≤ n - 1) (hn : n ≤ 12) :
    Calls Try.prog 75 #[.int .i64 (n : Int), v] w fun e w' => ∃ o us, e = .returned (.agg #[.int .i64 n, .int .i64 (nfW n l).1, o]) ∧ NB w' w.heap.size o us (nfW n l).2 ∧ Below w.heap.size w w' := by
  have hs := h.small
  have hlen := h.len (P := Try.prog) 32 3 ⟨_, sliceI⟩
  simp only [length_ints] at hs hlen
  have hA0 := (Bx.new w #[.int .i64 0, .int .i64 0, .slice none 0 0] 27).alloc (.cells #[.int .i64 (n : Int), .int .i64 0, .slice none 0 0] 27)
  have hB0 := Bx.new (w.alloc (.cells #[.int .i64 0, .int .i64 0, .slice none 0 0] 27)) #[.int .i64 (n : Int), .int .i64 0, .slice none 0 0] 27
  have hbox : Below w.heap.size w ((w.alloc (.cells #[.int .i64 0, .int .i64 0, .slice none 0 0] 27)).alloc (.cells #[.int .i64 (n : Int), .int .i64 0, .slice none 0 0] 27)) := ((Below.refl _ _).alloc (Nat.le_refl _) _).alloc (by simp) _
  have hsz2 : ((w.alloc (.cells #[.int .i64 0, .int .i64 0, .slice none 0 0] 27)).alloc (.cells #[.int .i64 (n : Int), .int .i64 0, .slice none 0 0] 27)).heap.size = w.heap.size + 1 + 1 := by simp
  simp only [World.size_alloc] at hB0
  go_enter Try.func75, Try.ntmps75
  go_wp2_with fail
  generalize hW : (w.alloc (.cells #[.int .i64 0, .int .i64 0, .slice none 0 0] 27)).alloc (.cells #[.int .i64 (n : Int), .int .i64 0, .slice none 0 0] 27) = w2 at *
  clear hW
  go_loopw [7, 8, 13] (fun _ _ i wr => ∃ (j : Nat) (o : Value) (us : List Value), j ≤ l.length ∧ i = .int .i64 j ∧ NB wr (w.heap.size + 1 + 1) o us ((gar n).NF (stTo n l j)).2 ∧ Bx wr (w.heap.size + 1) [.int .i64 (n : Int), .int .i64 ((gar n).NF (stTo n l j)).1, o] ∧ Bx wr w.heap.size [.int .i64 0, .int .i64 0, .slice none 0 0] ∧ Below w.heap.size w wr ∧ w.heap.size + 1 + 1 ≤ wr.heap.size) (fun _ _ i _ => l.length - (intOf i).toNat)
  case atStart => exact ⟨0, .slice none 0 0, [], by omega, rfl, NB.nil n _ _, hB0, hA0, hbox, by omega⟩
  case round =>
    clear hA0 hB0
    obtain ⟨j, o, us, hj, rfl, hN, hX, hA, hb, hwz⟩ := hrel
    have hnl := (gar n).NF_len (stTo n l j).1 (stTo n l j).2
    have hstl := stTo_len (n := n) l j
    by_cases hlt : j < l.length
    case pos =>
      have hi := h.idx 32 sliceI sizeI .i64 j (by omega) (by simpa using hlt)
      simp only [Int.toNat_natCast] at hi
      have hc := (h.below hb).int hlt
      obtain ⟨k0, k1, k2⟩ := hr j hlt
      have hst := hid (by rw [stTo_succ (n := n) hlt, ← (gar n).NF_stp] : (gar n).NF (stTo n l (j + 1)) = (gar n).NF ((gar n).stp ((gar n).NF (stTo n l j)) (ltr n (nth l j))))
      replace hr := hid hr
      replace hnl : ((gar n).NF (stTo n l j)).2.length ≤ 1000 ∧ -1000 ≤ ((gar n).NF (stTo n l j)).1 ∧ ((gar n).NF (stTo n l j)).1 ≤ 1000 := by
        have e : ((stTo n l j).1, (stTo n l j).2) = stTo n l j := rfl
        rw [e] at hnl; omega
      clear hstl
      generalize nth l j = k at *
      generalize hx : (gar n).NF (stTo n l j) = x at *
      clear hx
      have habs := hid (fun w => size_impl k w (by omega))
      by_cases hk : 0 < k
      · obtain ⟨m, rfl⟩ : ∃ m : Nat, k = m := ⟨k.toNat, by omega⟩
        have hkn : m < n := by omega
        have ea : absI (m : Int) = m := by unfold absI; rw [if_neg (by omega)]
        rw [ea] at habs
        have hup := hid (stp_up (n := n) hk (by simpa using hkn) x)
        replace hN := hid hN
        replace hX := hid hX
        replace hA := hid hA
        replace hb := hid hb
        clear ea
        go_wp2_with fail
        refine (habs.out _).mono ?_
        rintro e w3 ⟨rfl, rfl⟩
        go_wp2_with fail
        refine (letp_impl hkn (by omega) hn _).mono ?_
        rintro e w4 ⟨y, rfl, hy, hs4⟩
        have hz4 := hs4.size
        have hy := hid hy
        have hs4 := hid hs4
        clear hc
        go_wp2_with fail
        refine (times_impl (w.heap.size + 1) x.1 o y us x.2 (sg n m hkn) w4 (w.heap.size + 1 + 1) (by omega) (by omega) (hX.out.below hs4.out) (hN.out.below hs4.out) hy.out.reads (by omega) (by omega) (by omega) hn).mono ?_
        rintro e w5 ⟨o', us', rfl, hN5, hX5, hb5⟩
        have hz5 := hb5.size
        have hN5 := hid hN5
        have hX5 := hid hX5
        have hb5 := hid hb5
        go_wp2_with fail
        have e1 : (gar n).NF (stTo n l (j + 1)) = (gar n).NF (x.1, x.2 ++ [sg n m hkn]) := by
          rw [hst.out, hup.out]; congr 3; exact congrArg (fun z => [z]) ((gar n).one_mul (sg n m hkn))
        go_roundw
        case rel => exact ⟨j + 1, o', us', by omega, by go_num, by rw [e1]; exact hN5.out, by rw [e1]; exact hX5.out, (hA.out.below hs4.out).belowB hb5.out (by omega), hb.out.trans ((hs4.out.mono (by omega)).trans (hb5.out.mono (by omega))), by omega⟩
        case measure => simp [intOf]; omega
      · obtain ⟨m, rfl⟩ : ∃ m : Nat, k = -(m : Int) := ⟨(-k).toNat, by omega⟩
        have hkn : m < n := by omega
        have ea : absI (-(m : Int)) = m := by unfold absI; rw [if_pos (by omega)]; omega
        rw [ea] at habs
        have hup := hid (stp_down (n := n) (by omega) hkn x)
        replace hN := hid hN
        replace hX := hid hX
        replace hA := hid hA
        replace hb := hid hb
        clear ea
        go_wp2_with fail
        refine (habs.out _).mono ?_
        rintro e w3 ⟨rfl, rfl⟩
        go_wp2_with fail
        refine (letp_impl hkn (by omega) hn _).mono ?_
        rintro e w4 ⟨y, rfl, hy, hs4⟩
        have hz4 := hs4.size
        have hX4 := hX.out.below hs4
        have hc1 := hX4.cell 1 rfl
        have hf1 := hX4.frozen 1
        have hXS := hid (hX4.set 1 (.int .i64 (x.1 - 1)))
        have hAS := hid ((hA.out.below hs4).other (a := ⟨w.heap.size + 1, 1, none⟩) (by simp) (.int .i64 (x.1 - 1)))
        have hNS := hid ((hN.out.below hs4).set_block (g := w.heap.size + 1) (by omega) 1 (.int .i64 (x.1 - 1)))
        have hbS := hid ((hb.out.trans (hs4.mono (by omega))).setCell (p := ⟨w.heap.size + 1, 1, none⟩) (by simp) (.int .i64 (x.1 - 1)))
        have hyS := hid (hy.set_block (g := w.heap.size + 1) (by omega) 1 (.int .i64 (x.1 - 1)))
        have hyo := hid (apart_new' hN.out.own hy)
        have hsz3 : (w4.setCell ⟨w.heap.size + 1, 1, none⟩ (.int .i64 (x.1 - 1))).heap.size = w4.heap.size := by simp [World.setCell]
        clear hc hX4 hy hs4
        go_wp2_with fail
        generalize hWS : w4.setCell ⟨w.heap.size + 1, 1, none⟩ (.int .i64 (x.1 - 1)) = wS at *
        clear hWS hc1 hf1
        refine (flipAll_impl (w.heap.size + 1) (x.1 - 1) o us x.2 wS (w.heap.size + 1 + 1) (by omega) (by omega) hXS.out hNS.out hn).mono ?_
        rintro e w5 ⟨us2, rfl, hN5, hX5, hb5, hg5⟩
        have hz5 := hb5.size
        have hy5 := hid (hyS.out.keep (w' := w5) fun k hk hlt => hg5.block k hlt (fun e => hyo.out k hk e.symm) (fun e => hyo.out k hk e.symm))
        have hA5 := hid (hAS.out.belowB hb5 (by omega))
        have hb5' := hid (hbS.out.trans (hb5.mono (by omega)))
        replace hN5 := hid hN5
        replace hX5 := hid hX5
        clear hb5 hg5 hAS hNS hXS hbS hyS hyo
        go_wp2_with fail
        refine (half_impl (n : Int) _ (by omega) (by omega)).mono ?_
        rintro e w6 ⟨z, rfl, hz, hs6⟩
        rw [Int.toNat_natCast, half_val] at hz
        have hz6 := hs6.size
        have hy6 := hid (hy5.out.below hs6)
        have hzz := hid hz
        replace hs6 := hid hs6
        clear hz
        go_wp2_with fail
        refine (comp_impl z y (top n).1 (sg n m hkn).1 w6 hzz.out.reads hy6.out.reads (by rw [Pm.len]; omega) (fun i hi => by have := Pm.small (top n) i hi; simpa only [Pm.len] using this)).mono ?_
        rintro e w7 ⟨q, rfl, hq, hs7⟩
        rw [comp_val] at hq
        have hz7 := hs7.size
        have hq := hid hq
        replace hs7 := hid hs7
        go_wp2_with fail
        refine (times_impl (w.heap.size + 1) (x.1 - 1) o q us2 (x.2.map (gar n).tau) (mul (top n) (sg n m hkn)) w7 (w.heap.size + 1 + 1) (by omega) (by omega) ((hX5.out.below hs6.out).below hs7.out) ((hN5.out.below hs6.out).below hs7.out) hq.out.reads (by rw [List.length_map]; omega) (by omega) (by omega) hn).mono ?_
        rintro e w8 ⟨o', us', rfl, hN8, hX8, hb8⟩
        have hz8 := hb8.size
        have hN8 := hid hN8
        have hX8 := hid hX8
        have hb8 := hid hb8
        go_wp2_with fail
        have e1 : (gar n).NF (stTo n l (j + 1)) = (gar n).NF (x.1 - 1, x.2.map (gar n).tau ++ [mul (top n) (sg n m hkn)]) := by rw [hst.out, hup.out]
        go_roundw
        case rel => exact ⟨j + 1, o', us', by omega, by go_num, by rw [e1]; exact hN8.out, by rw [e1]; exact hX8.out, ((hA5.out.below hs6.out).below hs7.out).belowB hb8.out (by omega), hb5'.out.trans ((hs6.out.mono (by omega)).trans ((hs7.out.mono (by omega)).trans (hb8.out.mono (by omega)))), by omega⟩
        case measure => simp [intOf]; omega
    case neg =>
      obtain rfl : j = l.length := by omega
      have e : (gar n).NF (stTo n l l.length) = nfW n l := by unfold nfW stTo; rw [List.take_length]
      rw [e] at hN hX
      clear hnl hstl e
      obtain ⟨oa, on, oc, rfl⟩ := own_lit hN.own
      have c0 := hX.cell 0 rfl
      have c1 := hX.cell 1 rfl
      have c2 := hX.cell 2 rfl
      have d0 := hA.cell 0 rfl
      have d1 := hA.cell 1 rfl
      have d2 := hA.cell 2 rfl
      have f0 := hA.frozen 0
      have f1 := hA.frozen 1
      have f2 := hA.frozen 2
      have hE := hid (((hN.set_block (g := w.heap.size) (by omega) 0 (.int .i64 (n : Int))).set_block (g := w.heap.size) (by omega) 1 (.int .i64 (nfW n l).1)).set_block (g := w.heap.size) (by omega) 2 (.slice oa on oc))
      have hEb := hid (((hb.setCell (p := ⟨w.heap.size, 0, none⟩) (Nat.le_refl _) (.int .i64 (n : Int))).setCell (p := ⟨w.heap.size, 1, none⟩) (Nat.le_refl _) (.int .i64 (nfW n l).1)).setCell (p := ⟨w.heap.size, 2, none⟩) (Nat.le_refl _) (.slice oa on oc))
      have hA5 := ((hA.set 0 (.int .i64 (n : Int))).set 1 (.int .i64 (nfW n l).1)).set 2 (.slice oa on oc)
      have a0 := hA5.cell 0 rfl
      have a1 := hA5.cell 1 rfl
      have a2 := hA5.cell 2 rfl
      clear hX hA hA5
      go_wp2_with fail
      refine bodyPost_ret (v := .agg #[.int .i64 (n : Int), .int .i64 (nfW n l).1, .slice oa on oc]) (by simp [a0, a1, a2, results, Try.results75, go_sem]) rfl ⟨_, us, rfl, hE.out.lower (by omega), hEb.out⟩


end Go.Proofs.Ytmeccemnmkobbaa

namespace Go.Proofs.Ytmeccemnmkobbaa
open Go.RowKit
open Pm

/-- a word on n strands -/
def Wok (n : Nat) (l : List Int) : Prop := ∀ i, i < l.length → nth l i ≠ 0 ∧ 1 - (n : Int) ≤ nth l i ∧ nth l i ≤ n - 1
theorem Wok.mem {n : Nat} {l : List Int} (h : Wok n l) {k : Int} (hk : k ∈ l) : k ≠ 0 ∧ 1 - (n : Int) ≤ k ∧ k ≤ n - 1 := by
  obtain ⟨i, hi, e⟩ := List.getElem_of_mem hk
  have := h i hi
  have e2 : nth l i = k := by simp [nth, hi, e]
  rwa [e2] at this
theorem Wok.nil {n : Nat} {l : List Int} (h : Wok n l) (hn : n < 2) : l = [] := by
  cases l with
  | nil => rfl
  | cons k l => have := h 0 (by simp); omega
theorem Wok.app {n : Nat} {l m : List Int} (h : Wok n l) (k : Wok n m) : Wok n (l ++ m) := fun i hi => by
  by_cases e : i < l.length
  · have := h i e; unfold nth at *; rwa [List.getElem?_append_left e]
  · have := k (i - l.length) (by rw [List.length_append] at hi; omega); unfold nth at *; rwa [List.getElem?_append_right (by omega)]
theorem Wok.inv {n : Nat} {l : List Int} (h : Wok n l) : Wok n (invW l) := fun i hi => by
  rw [length_invW] at hi
  rw [nth_invW hi]
  have := h (l.length - 1 - i) (by omega)
  omega
/-- equality of two words as braids, as the reference asks for it -/
theorem eqw_iff {n : Nat} {l m : List Int} (h : Wok n l) (k : Wok n m) : (nfW n (l ++ invW m)).1 = 0 ∧ (nfW n (l ++ invW m)).2.length = 0 ↔ nfW n l = nfW n m := by
  by_cases h2 : n < 2
  · rw [h.nil h2, k.nil h2]
    exact ⟨fun _ => rfl, fun _ => ⟨rfl, rfl⟩⟩
  · have e := (gar n).NF_raw_iff (top_ne_one (by omega)) (lts n l) (lts n m)
    rw [winv_lts n m (fun x hx => (k.mem hx).1), ← lts_append] at e
    unfold nfW
    rw [← e]
    constructor
    · intro ⟨e1, e2⟩
      exact Prod.ext e1 (List.length_eq_zero_iff.1 e2)
    · intro e1
      have e1' : (gar n).NF ((gar n).raw (lts n (l ++ invW m))) = (0, []) := e1
      rw [e1']; exact ⟨rfl, rfl⟩
theorem NB.reads {n : Nat} {w : World} {B : Nat} {o : Value} {us : List Value} {L : List (Pm n)} (h : NB w B o us L) : ReadsII w o (vals L) :=
  ⟨us, h.own.reads, by simpa using h.len, fun i hi => by rw [length_vals] at hi; rw [rat_vals hi]; exact (h.row i hi).reads⟩
theorem vals_inj {n : Nat} {L M : List (Pm n)} : vals L = vals M ↔ L = M :=
  ⟨fun h => List.map_inj_right (fun _ _ e => Subtype.ext e) |>.1 h, fun h => by rw [h]⟩

set_option maxRecDepth 100000 in
set_option maxHeartbeats 4000000 in
theorem eqw_impl (n : Nat) (v u : Value) (l m : List Int) (w : World) (h : Reads w v (ints l)) (h' : Reads w u (ints m)) (hl : l.length ≤ 1000) (hm : m.length ≤ 1000) (hr : Wok n l) (hr' : Wok n m) (hn : n ≤ 12) :
    Calls Try.prog 80 #[.int .i64 (n : Int), v, u] w fun e w' => e = .returned (.bool (decide (nfW n l = nfW n m))) ∧ Below w.heap.size w w' := by
  go_enter Try.func80, Try.ntmps80
  go_wp2_with fail
  refine (normal_impl n v l w h hl hr hn).mono ?_
  rintro e w1 ⟨o1, us1, rfl, hN1, hs1⟩
  replace hN1 := hid hN1
  replace hs1 := hid hs1
  have h1 := hid (h'.below hs1.out)
  go_wp2_with fail
  refine (normal_impl n u m w1 h1.out hm hr' hn).mono ?_
  rintro e w2 ⟨o2, us2, rfl, hN2, hs2⟩
  replace hN2 := hid hN2
  replace hs2 := hid hs2
  go_wp2_with fail
  refine (sn_impl n (nfW n l).1 n (nfW n m).1 o1 o2 (vals (nfW n l).2) (vals (nfW n m).2) w2 (hN1.out.below hs2.out).reads hN2.out.reads).mono ?_
  rintro e w3 ⟨rfl, hs3⟩
  have e : sameN n (nfW n l).1 (vals (nfW n l).2) n (nfW n m).1 (vals (nfW n m).2) = decide (nfW n l = nfW n m) := by
    unfold sameN
    rw [show ((n : Int) == n) = true from by simp, Bool.true_and]
    by_cases e : nfW n l = nfW n m
    · rw [e]; simp
    · rw [decide_eq_false e]
      cases e1 : ((nfW n l).1 == (nfW n m).1) with
      | false => rfl
      | true =>
        rw [Bool.true_and, decide_eq_false]
        intro e2
        exact e (Prod.ext (by simpa using e1) (vals_inj.1 e2))
  rw [e]
  replace hs3 := hid hs3
  have hz1 := hs1.out.size
  have hz2 := hs2.out.size
  go_wp2_with fail
  go_ret
  exact ⟨rfl, hs1.out.trans ((hs2.out.mono hz1).trans (hs3.out.mono (by omega)))⟩

set_option maxRecDepth 100000 in
set_option maxHeartbeats 4000000 in
theorem equal_spec (n : Nat) (v u : Value) (l m : List Int) (w : World) (h : Reads w v (ints l)) (h' : Reads w u (ints m)) (hl : l.length ≤ 500) (hm : m.length ≤ 500) (hr : Wok n l) (hr' : Wok n m) (hn : n ≤ 12) :
    Calls Try.prog 78 #[.int .i64 (n : Int), v, u] w fun e w' => e = .returned (.bool (decide (nfW n l = nfW n m))) ∧ Below w.heap.size w w' := by
  have hq := eqw_iff hr hr'
  go_enter Try.func78, Try.ntmps78
  go_wp2_with fail
  refine (own_copy v l w h (by omega)).mono ?_
  rintro e w1 ⟨a, rfl, ha, hs1⟩
  have h1 := hid (h'.below hs1)
  replace ha := hid ha
  replace hs1 := hid hs1
  have hz1 := hs1.out.size
  go_wp2_with fail
  refine (inv_spec' u m w1 h1.out (by omega) (fun k hk => by have := hr' k hk; omega)).mono ?_
  rintro e w2 ⟨b, rfl, hb, hs2⟩
  have hz2 := hs2.size
  obtain ⟨c, w3, hrun, hc, hg3⟩ := app_run (T := 32) (ty := 32) sliceI infoI rfl (ha.out.below hs2) hb.reads (oneCell_ints _) (by omega) (by simp; omega) (by decide)
  have hs3 := hid ((hs1.out.trans (hs2.mono hz1)).grown hg3 (by omega) (fun j hj => (ha.out.below hs2).blk_lt hj |>.1))
  replace hc := hid hc
  clear hs2 hb hg3 h1 ha hs1
  go_wp2_with (at_builtin; refine wpList_app hrun rfl _ _ rfl rfl rfl ?_)
  have hc' : Reads w3 c (ints (l ++ invW m)) := by have := hc.out.reads; simpa [ints] using this
  clear hrun
  refine (normal_spec n c (l ++ invW m) w3 hc' (by simp; omega) (hr.app hr'.inv) hn).mono ?_
  rintro e w4 ⟨o, us, rfl, ho, hrw, hs4⟩
  have hz3 := hs3.out.size
  have hz4 := hs4.size
  have hul := hrw.rows.len
  rw [length_vals] at hul
  have hfin := hid (hs3.out.trans (hs4.mono hz3))
  obtain ⟨oa, on, oc, rfl⟩ := own_lit ho
  have hX := Bx.new w4 #[.int .i64 n, .int .i64 (nfW n (l ++ invW m)).1, .slice oa on oc] 27
  have c1 := hX.cell 1 rfl
  have c2 := hX.cell 2 rfl
  have hln := ho.reads.len (P := Try.prog) 22 3 ⟨_, sliceII⟩
  rw [hul] at hln
  clear hc hs4 ho hrw hc'
  have hfb := hid ((hfin.out.alloc (by omega) (.cells #[.int .i64 n, .int .i64 (nfW n (l ++ invW m)).1, .slice oa on oc] 27)))
  by_cases e1 : (nfW n (l ++ invW m)).1 = 0
  · by_cases e2 : (nfW n (l ++ invW m)).2.length = 0
    · have hD := decide_eq_true (hq.1 ⟨e1, e2⟩)
      rw [e1] at c1 hfb
      rw [e2] at hln
      rw [e1]
      replace hD := hid hD
      clear hq e1 e2 hX
      go_wp2_with fail
      go_ret
      exact ⟨by rw [hD.out]; rfl, hfb.out⟩
    · have hD := hid (decide_eq_false (fun e => e2 (hq.2 e).2))
      rw [e1] at c1 hfb
      rw [e1]
      have e3 : (((nfW n (l ++ invW m)).2.length : Int) == 0) = false := by rw [beq_eq_false_iff_ne]; omega
      clear hq e1 e2 hX
      go_wp2_with fail
      go_ret
      exact ⟨by rw [hD.out]; rfl, hfb.out⟩
  · have hD := hid (decide_eq_false (fun e => e1 (hq.2 e).1))
    have e3 : ((nfW n (l ++ invW m)).1 == 0) = false := by rw [beq_eq_false_iff_ne]; exact e1
    clear hq e1 hX
    go_wp2_with fail
    go_ret
    exact ⟨by rw [hD.out]; rfl, hfb.out⟩


end Go.Proofs.Ytmeccemnmkobbaa

namespace Go.Proofs.Ytmeccemnmkobbaa
open Go.RowKit
open Pm

def eqBr (n : Int) (l : List Int) (m : Int) (k : List Int) : Bool := okB n l && okB m k && (n == m) && decide (nfW n.toNat l = nfW n.toNat k)
def trivB (n : Int) (l : List Int) : Bool := okB n l && decide (nfW n.toNat l = nfW n.toNat [])
theorem Wok.of {n : Nat} {l : List Int} (h : okB (n : Int) l = true) : Wok n l := fun i hi => (okB_of h).2.2.2 i hi
theorem Wok.empty (n : Nat) : Wok n [] := fun i hi => absurd hi (by simp)
theorem reads_nil (w : World) : Reads w (.slice none 0 0) (ints []) := (Own.nilv w 0 2).reads


set_option maxRecDepth 100000 in
set_option maxHeartbeats 4000000 in
theorem veq_spec (n : Int) (v : Value) (l : List Int) (m : Int) (u : Value) (k : List Int) (w : World) (h : Reads w v (ints l)) (h' : Reads w u (ints k)) :
    Calls Try.prog 34 #[.agg #[.int .i64 n, v], .agg #[.int .i64 m, u]] w fun e w' => e = .returned (.bool (eqBr n l m k)) ∧ Below w.heap.size w w' := by
  have hA0 := (Bx.new w #[.int .i64 n, v] 35).alloc (.cells #[.int .i64 m, u] 35)
  have hB0 := Bx.new (w.alloc (.cells #[.int .i64 n, v] 35)) #[.int .i64 m, u] 35
  have hb0 : Below w.heap.size w ((w.alloc (.cells #[.int .i64 n, v] 35)).alloc (.cells #[.int .i64 m, u] 35)) := ((Below.refl _ _).alloc (Nat.le_refl _) _).alloc (by simp) _
  have hrA := reads_alloc (reads_alloc h (.cells #[.int .i64 n, v] 35)) (.cells #[.int .i64 m, u] 35)
  have hrB := reads_alloc (reads_alloc h' (.cells #[.int .i64 n, v] 35)) (.cells #[.int .i64 m, u] 35)
  simp only [World.size_alloc] at hB0
  go_enter Try.func34, Try.ntmps34
  go_wp2_with fail
  generalize ((w.alloc (.cells #[.int .i64 n, v] 35)).alloc (.cells #[.int .i64 m, u] 35)) = w0 at *
  have A0 := hA0.cell 0 rfl
  have A1 := hA0.cell 1 rfl
  have B0 := hB0.cell 0 rfl
  have B1 := hB0.cell 1 rfl
  go_wp2_with fail
  refine (bok_spec (w.heap.size) 0 n v l _ A0 A1 hrA).mono ?_
  rintro e w1 ⟨rfl, hs1⟩
  have hA1 := hA0.below hs1
  have hB1 := hB0.below hs1
  replace hrA := hrA.below hs1
  replace hrB := hrB.below hs1
  have hb1 := hb0.trans (hs1.mono hb0.size)
  clear hs1 hA0 hB0 hb0 A0 A1 B0 B1
  have A0 := hA1.cell 0 rfl
  have A1 := hA1.cell 1 rfl
  have B0 := hB1.cell 0 rfl
  have B1 := hB1.cell 1 rfl
  cases e1 : okB n l with
  | false =>
    go_wp2_with fail
    go_ret
    exact ⟨by unfold eqBr; rw [e1]; rfl, hb1⟩
  | true =>
  replace e1 := hid e1
  go_wp2_with fail
  refine (bok_spec (w.heap.size + 1) 0 m u k _ B0 B1 hrB).mono ?_
  rintro e w2 ⟨rfl, hs2⟩
  have hA2 := hA1.below hs2
  have hB2 := hB1.below hs2
  replace hrA := hrA.below hs2
  replace hrB := hrB.below hs2
  have hb2 := hb1.trans (hs2.mono hb1.size)
  clear hs2 hA1 hB1 hb1 A0 A1 B0 B1
  have A0 := hA2.cell 0 rfl
  have A1 := hA2.cell 1 rfl
  have B0 := hB2.cell 0 rfl
  have B1 := hB2.cell 1 rfl
  cases e2 : okB m k with
  | false =>
    go_wp2_with fail
    go_ret
    exact ⟨by unfold eqBr; rw [e1.out, e2]; rfl, hb2⟩
  | true =>
  replace e2 := hid e2
  cases e3 : (n == m) with
  | false =>
    go_wp2_with fail
    go_ret
    exact ⟨by unfold eqBr; rw [e1.out, e2.out, e3]; rfl, hb2⟩
  | true =>
  obtain rfl : n = m := by simpa using e3
  obtain ⟨a, rfl⟩ := Int.eq_ofNat_of_zero_le (okB_of e1.out).1
  have q1 := (okB_of e1.out)
  have q2 := (okB_of e2.out)
  obtain ⟨_, q3, q4, -⟩ := q1
  obtain ⟨_, _, q5, -⟩ := q2
  go_wp2_with fail
  refine (equal_spec a v u l k w2 hrA hrB (by omega) (by omega) (Wok.of e1.out) (Wok.of e2.out) (by omega)).mono ?_
  rintro e w3 ⟨rfl, hs3⟩
  have hb3 := hid (hb2.trans (hs3.mono hb2.size))
  go_wp2_with fail
  go_ret
  exact ⟨by unfold eqBr; rw [e1.out, e2.out, e3]; rfl, hb3.out⟩


set_option maxRecDepth 100000 in
set_option maxHeartbeats 4000000 in
theorem veq_impl (n : Int) (v : Value) (l : List Int) (m : Int) (u : Value) (k : List Int) (w : World) (h : Reads w v (ints l)) (h' : Reads w u (ints k)) :
    Calls Try.prog 35 #[.agg #[.int .i64 n, v], .agg #[.int .i64 m, u]] w fun e w' => e = .returned (.bool (eqBr n l m k)) ∧ Below w.heap.size w w' := by
  have hA0 := (Bx.new w #[.int .i64 n, v] 35).alloc (.cells #[.int .i64 m, u] 35)
  have hB0 := Bx.new (w.alloc (.cells #[.int .i64 n, v] 35)) #[.int .i64 m, u] 35
  have hb0 : Below w.heap.size w ((w.alloc (.cells #[.int .i64 n, v] 35)).alloc (.cells #[.int .i64 m, u] 35)) := ((Below.refl _ _).alloc (Nat.le_refl _) _).alloc (by simp) _
  have hrA := reads_alloc (reads_alloc h (.cells #[.int .i64 n, v] 35)) (.cells #[.int .i64 m, u] 35)
  have hrB := reads_alloc (reads_alloc h' (.cells #[.int .i64 n, v] 35)) (.cells #[.int .i64 m, u] 35)
  simp only [World.size_alloc] at hB0
  go_enter Try.func35, Try.ntmps35
  go_wp2_with fail
  generalize ((w.alloc (.cells #[.int .i64 n, v] 35)).alloc (.cells #[.int .i64 m, u] 35)) = w0 at *
  have A0 := hA0.cell 0 rfl
  have A1 := hA0.cell 1 rfl
  have B0 := hB0.cell 0 rfl
  have B1 := hB0.cell 1 rfl
  go_wp2_with fail
  refine (vb_impl n v l _ hrA).mono ?_
  rintro e w1 ⟨rfl, hs1⟩
  have hA1 := hA0.below hs1
  have hB1 := hB0.below hs1
  replace hrA := hrA.below hs1
  replace hrB := hrB.below hs1
  have hb1 := hb0.trans (hs1.mono hb0.size)
  clear hs1 hA0 hB0 hb0 A0 A1 B0 B1
  have A0 := hA1.cell 0 rfl
  have A1 := hA1.cell 1 rfl
  have B0 := hB1.cell 0 rfl
  have B1 := hB1.cell 1 rfl
  cases e1 : okB n l with
  | false =>
    go_wp2_with fail
    go_ret
    exact ⟨by unfold eqBr; rw [e1]; rfl, hb1⟩
  | true =>
  replace e1 := hid e1
  go_wp2_with fail
  refine (vb_impl m u k _ hrB).mono ?_
  rintro e w2 ⟨rfl, hs2⟩
  have hA2 := hA1.below hs2
  have hB2 := hB1.below hs2
  replace hrA := hrA.below hs2
  replace hrB := hrB.below hs2
  have hb2 := hb1.trans (hs2.mono hb1.size)
  clear hs2 hA1 hB1 hb1 A0 A1 B0 B1
  have A0 := hA2.cell 0 rfl
  have A1 := hA2.cell 1 rfl
  have B0 := hB2.cell 0 rfl
  have B1 := hB2.cell 1 rfl
  cases e2 : okB m k with
  | false =>
    go_wp2_with fail
    go_ret
    exact ⟨by unfold eqBr; rw [e1.out, e2]; rfl, hb2⟩
  | true =>
  replace e2 := hid e2
  cases e3 : (n == m) with
  | false =>
    go_wp2_with fail
    go_ret
    exact ⟨by unfold eqBr; rw [e1.out, e2.out, e3]; rfl, hb2⟩
  | true =>
  obtain rfl : n = m := by simpa using e3
  obtain ⟨a, rfl⟩ := Int.eq_ofNat_of_zero_le (okB_of e1.out).1
  have q1 := (okB_of e1.out)
  have q2 := (okB_of e2.out)
  obtain ⟨_, q3, q4, -⟩ := q1
  obtain ⟨_, _, q5, -⟩ := q2
  go_wp2_with fail
  refine (eqw_impl a v u l k w2 hrA hrB (by omega) (by omega) (Wok.of e1.out) (Wok.of e2.out) (by omega)).mono ?_
  rintro e w3 ⟨rfl, hs3⟩
  have hb3 := hid (hb2.trans (hs3.mono hb2.size))
  go_wp2_with fail
  go_ret
  exact ⟨by unfold eqBr; rw [e1.out, e2.out, e3]; rfl, hb3.out⟩


set_option maxRecDepth 100000 in
set_option maxHeartbeats 4000000 in
theorem vtriv_spec (n : Int) (v : Value) (l : List Int) (w : World) (h : Reads w v (ints l)) :
    Calls Try.prog 30 #[.agg #[.int .i64 n, v]] w fun e w' => e = .returned (.bool (trivB n l)) ∧ Below w.heap.size w w' := by
  have hA0 := Bx.new w #[.int .i64 n, v] 35
  have hb0 : Below w.heap.size w (w.alloc (.cells #[.int .i64 n, v] 35)) := (Below.refl _ _).alloc (Nat.le_refl _) _
  have hrA := reads_alloc h (.cells #[.int .i64 n, v] 35)
  go_enter Try.func30, Try.ntmps30
  go_wp2_with fail
  generalize (w.alloc (.cells #[.int .i64 n, v] 35)) = w0 at *
  have A0 := hA0.cell 0 rfl
  have A1 := hA0.cell 1 rfl
  go_wp2_with fail
  refine (bok_spec (w.heap.size) 0 n v l _ A0 A1 hrA).mono ?_
  rintro e w1 ⟨rfl, hs1⟩
  have hA1 := hA0.below hs1
  replace hrA := hrA.below hs1
  have hb1 := hb0.trans (hs1.mono hb0.size)
  clear hs1 hA0 hb0 A0 A1
  have A0 := hA1.cell 0 rfl
  have A1 := hA1.cell 1 rfl
  cases e1 : okB n l with
  | false =>
    go_wp2_with fail
    go_ret
    exact ⟨by unfold trivB; rw [e1]; rfl, hb1⟩
  | true =>
  replace e1 := hid e1
  obtain ⟨a, rfl⟩ := Int.eq_ofNat_of_zero_le (okB_of e1.out).1
  have q1 := (okB_of e1.out)
  obtain ⟨_, q3, q4, -⟩ := q1
  go_wp2_with fail
  refine (equal_spec a v (.slice none 0 0) l [] w1 hrA (reads_nil _) (by omega) (by simp) (Wok.of e1.out) (Wok.empty a) (by omega)).mono ?_
  rintro e w3 ⟨rfl, hs3⟩
  have hb3 := hid (hb1.trans (hs3.mono hb1.size))
  go_wp2_with fail
  go_ret
  exact ⟨by unfold trivB; rw [e1.out]; rfl, hb3.out⟩


set_option maxRecDepth 100000 in
set_option maxHeartbeats 4000000 in
theorem vtriv_impl (n : Int) (v : Value) (l : List Int) (w : World) (h : Reads w v (ints l)) :
    Calls Try.prog 32 #[.agg #[.int .i64 n, v]] w fun e w' => e = .returned (.bool (trivB n l)) ∧ Below w.heap.size w w' := by
  have hA0 := Bx.new w #[.int .i64 n, v] 35
  have hb0 : Below w.heap.size w (w.alloc (.cells #[.int .i64 n, v] 35)) := (Below.refl _ _).alloc (Nat.le_refl _) _
  have hrA := reads_alloc h (.cells #[.int .i64 n, v] 35)
  go_enter Try.func32, Try.ntmps32
  go_wp2_with fail
  generalize (w.alloc (.cells #[.int .i64 n, v] 35)) = w0 at *
  have A0 := hA0.cell 0 rfl
  have A1 := hA0.cell 1 rfl
  go_wp2_with fail
  refine (vb_impl n v l _ hrA).mono ?_
  rintro e w1 ⟨rfl, hs1⟩
  have hA1 := hA0.below hs1
  replace hrA := hrA.below hs1
  have hb1 := hb0.trans (hs1.mono hb0.size)
  clear hs1 hA0 hb0 A0 A1
  have A0 := hA1.cell 0 rfl
  have A1 := hA1.cell 1 rfl
  cases e1 : okB n l with
  | false =>
    go_wp2_with fail
    go_ret
    exact ⟨by unfold trivB; rw [e1]; rfl, hb1⟩
  | true =>
  replace e1 := hid e1
  obtain ⟨a, rfl⟩ := Int.eq_ofNat_of_zero_le (okB_of e1.out).1
  have q1 := (okB_of e1.out)
  obtain ⟨_, q3, q4, -⟩ := q1
  go_wp2_with fail
  refine (eqw_impl a v (.slice none 0 0) l [] w1 hrA (reads_nil _) (by omega) (by simp) (Wok.of e1.out) (Wok.empty a) (by omega)).mono ?_
  rintro e w3 ⟨rfl, hs3⟩
  have hb3 := hid (hb1.trans (hs3.mono hb1.size))
  go_wp2_with fail
  go_ret
  exact ⟨by unfold trivB; rw [e1.out]; rfl, hb3.out⟩


end Go.Proofs.Ytmeccemnmkobbaa

namespace Go.Proofs.Ytmeccemnmkobbaa
open Go.RowKit
open Pm

/-- v reads as rows of numbers, all of it in blocks from lo on and below hi -/
structure RdR (w : World) (lo hi : Nat) (v : Value) (vs : List Value) (ls : List (List Int)) : Prop where
  rd : Reads w v vs
  rows : RowsR w vs ls
  out : ∀ k, blk v = some k → lo ≤ k ∧ k < hi
  inn : ∀ i, i < ls.length → ∀ k, blk (vat vs i) = some k → lo ≤ k ∧ k < hi
def RdII (w : World) (lo hi : Nat) (v : Value) (ls : List (List Int)) : Prop := ∃ vs, RdR w lo hi v vs ls
theorem RdII.reads {w : World} {lo hi : Nat} {v : Value} {ls : List (List Int)} (h : RdII w lo hi v ls) : ReadsII w v ls := by
  obtain ⟨vs, h⟩ := h
  exact ⟨vs, h.rd, h.rows⟩
theorem RdII.below {w w' : World} {lo hi : Nat} {v : Value} {ls : List (List Int)} (h : RdII w lo hi v ls) (hb : Below w.heap.size w w') : RdII w' lo hi v ls := by
  obtain ⟨vs, h⟩ := h
  exact ⟨vs, h.rd.below hb, h.rows.below hb, h.out, h.inn⟩
theorem RdII.alloc {w : World} {lo hi : Nat} {v : Value} {ls : List (List Int)} (h : RdII w lo hi v ls) (o : Obj) : RdII (w.alloc o) lo hi v ls := h.below ((Below.refl _ _).alloc (Nat.le_refl _) o)
theorem RdII.gri {w w' : World} {lo hi lo' hi' : Nat} {v : Value} {ls : List (List Int)} (h : RdII w lo' hi' v ls) (hg : GrI w w' lo hi) (hd : hi' ≤ lo ∨ hi ≤ lo') : RdII w' lo' hi' v ls := by
  obtain ⟨vs, h⟩ := h
  exact ⟨vs, hg.reads h.rd fun k hk => by have := h.out k hk; omega, ⟨h.rows.len, fun i hi => hg.reads (h.rows.row i hi) fun k hk => by have := h.inn i hi k hk; omega⟩, h.out, h.inn⟩
theorem RdII.widen {w : World} {lo lo' hi hi' : Nat} {v : Value} {ls : List (List Int)} (h : RdII w lo hi v ls) (hl : lo' ≤ lo) (hh : hi ≤ hi') : RdII w lo' hi' v ls := by
  obtain ⟨vs, h⟩ := h
  exact ⟨vs, h.rd, h.rows, fun k hk => by have := h.out k hk; omega, fun i hi k hk => by have := h.inn i hi k hk; omega⟩
theorem RdII.lower {w : World} {lo lo' hi : Nat} {v : Value} {ls : List (List Int)} (h : RdII w lo hi v ls) (hl : lo' ≤ lo) : RdII w lo' hi v ls := h.widen hl (Nat.le_refl _)
theorem RdII.form3 {w : World} {lo hi : Nat} {v : Value} {ls : List (List Int)} (h : RdII w lo hi v ls) : ∃ a n c, v = .slice a n c := by
  obtain ⟨vs, h⟩ := h
  obtain ⟨a, c, rfl, -⟩ := h.rd.form
  exact ⟨a, _, c, rfl⟩
theorem RdII.form {w : World} {lo hi : Nat} {v : Value} {ls : List (List Int)} (h : RdII w lo hi v ls) : ∃ a n c, v = .slice a n c := h.form3
theorem RdII.setAt {w : World} {lo hi : Nat} {v : Value} {ls : List (List Int)} (h : RdII w lo hi v ls) {g : Nat} (hg : g < lo) (i : Nat) (x : Value) : RdII (w.setCell ⟨g, i, none⟩ x) lo hi v ls := by
  obtain ⟨vs, h⟩ := h
  exact ⟨vs, h.rd.keep fun k hk _ => Below.heap_setCell _ _ _ _ (fun e => by have := h.out k hk; simp at e; omega), ⟨h.rows.len, fun i hi => (h.rows.row i hi).keep fun k hk _ => Below.heap_setCell _ _ _ _ (fun e => by have := h.inn i hi k hk; simp at e; omega)⟩, h.out, h.inn⟩
theorem RdII.topped {w : World} {lo hi hi' : Nat} {v : Value} {ls : List (List Int)} (h : RdII w lo hi v ls) (hh : hi ≤ hi') : RdII w lo hi' v ls := h.widen (Nat.le_refl _) hh
theorem RdII.lowered {w : World} {lo lo' hi hi' : Nat} {v : Value} {ls : List (List Int)} (h : RdII w lo hi v ls) (hl : lo' ≤ lo) (hh : hi ≤ hi' := by simp [World.setCell]) : RdII w lo' hi' v ls := h.widen hl hh
theorem RdII.of {w : World} {lo B : Nat} {e : TypeId} {v : Value} {vs : List Value} {ls : List (List Int)} (h : Own w B e v vs) (hr : RowsB w lo vs ls) (hB : lo ≤ B) : RdII w lo w.heap.size v ls :=
  ⟨vs, h.reads, hr.rows, fun k hk => by have := h.blk_lt hk; omega, fun i hi k hk => hr.blks i hi k hk⟩
theorem RdII.empty (w : World) (lo hi : Nat) : RdII w lo hi (.slice none 0 0) [] :=
  ⟨[], (Own.nilv w 0 32).reads, ⟨rfl, fun i hi => absurd hi (by simp)⟩, fun k hk => by simp [blk] at hk, fun i hi => absurd hi (by simp)⟩
theorem OwnII.setAt {w : World} {lo hi : Nat} {eo ei : TypeId} {v : Value} {ls : List (List Int)} (h : OwnII w lo hi eo ei v ls) {g : Nat} (hg : g < lo) (i : Nat) (x : Value) : OwnII (w.setCell ⟨g, i, none⟩ x) lo hi eo ei v ls := by
  obtain ⟨vs, h⟩ := h
  exact ⟨vs, h.keep fun _ _ _ k => k.setAt hg i x⟩
theorem OwnII.topped {w : World} {lo hi hi' : Nat} {eo ei : TypeId} {v : Value} {ls : List (List Int)} (h : OwnII w lo hi eo ei v ls) (hh : hi ≤ hi') : OwnII w lo hi' eo ei v ls := h.widen (Nat.le_refl _) hh
theorem OwnII.lowered {w : World} {lo lo' hi hi' : Nat} {eo ei : TypeId} {v : Value} {ls : List (List Int)} (h : OwnII w lo hi eo ei v ls) (hl : lo' ≤ lo) (hh : hi ≤ hi' := by simp [World.setCell]) : OwnII w lo' hi' eo ei v ls := h.widen hl hh
theorem OwnII.empty (w : World) (lo hi : Nat) : OwnII w lo hi 32 2 (.slice none 0 0) [] :=
  ⟨[], ⟨Own.nilv _ _ _, fun k hk => by simp [blk] at hk⟩, rfl, fun i hi => absurd hi (by simp), fun i j _ hj => absurd hj (by simp), fun i hi => absurd hi (by simp)⟩
theorem NB.ownII {n : Nat} {w : World} {B : Nat} {o : Value} {us : List Value} {L : List (Pm n)} (h : NB w B o us L) : OwnII w B w.heap.size 32 2 o (vals L) :=
  ⟨us, ⟨h.own, fun k hk => (h.own.blk_lt hk).2⟩, by simpa using h.len, fun i hi => by rw [length_vals] at hi; rw [rat_vals hi]; exact ⟨h.row i hi, fun k hk => ((h.row i hi).blk_lt hk).2⟩,
    fun i j hij hj => by rw [length_vals] at hj; exact h.apart i j (by omega) (by omega) hj, fun i hi => by rw [length_vals] at hi; exact h.outer i hi⟩

def nfN (n : Int) (l : List Int) : Int := if okB n l then n else 0
def nfP (n : Int) (l : List Int) : Int := if okB n l then (nfW n.toNat l).1 else 0
def nfL (n : Int) (l : List Int) : List (List Int) := if okB n l then vals (nfW n.toNat l).2 else []
theorem nfW_len (n : Nat) (l : List Int) : (nfW n l).2.length ≤ l.length ∧ -(l.length : Int) ≤ (nfW n l).1 ∧ (nfW n l).1 ≤ l.length := by
  have e : nfW n l = (gar n).NF ((stTo n l l.length).1, (stTo n l l.length).2) := by unfold nfW stTo; rw [List.take_length]
  have h1 := (gar n).NF_len (stTo n l l.length).1 (stTo n l l.length).2
  have h2 := stTo_len (n := n) l l.length
  rw [← e] at h1
  omega
theorem nfL_tot (n : Int) (l : List Int) : tot (nfL n l) ≤ 480 := by
  unfold nfL
  split
  · rename_i h
    obtain ⟨h0, h1, h2, -⟩ := okB_of h
    rw [tot_vals]
    have := (nfW_len n.toNat l).1
    have h5 : n.toNat ≤ 12 := by omega
    have h6 : (nfW n.toNat l).2.length ≤ 40 := by omega
    have := Nat.mul_le_mul h5 h6
    omega
  · simp [tot]


set_option maxRecDepth 100000 in
set_option maxHeartbeats 4000000 in
theorem vnf_spec (n : Int) (v : Value) (l : List Int) (w : World) (h : Reads w v (ints l)) :
    Calls Try.prog 47 #[.agg #[.int .i64 n, v]] w fun e w' => ∃ x, e = .returned (.tuple #[.agg #[.int .i64 (nfN n l), .int .i64 (nfP n l), x], .bool (okB n l)]) ∧ RdII w' w.heap.size w'.heap.size x (nfL n l) ∧ Below w.heap.size w w' := by
  have hA0 := (Bx.new w #[.int .i64 n, v] 35).alloc (.cells #[.int .i64 0, .int .i64 0, .slice none 0 0] 27)
  have hR0 := Bx.new (w.alloc (.cells #[.int .i64 n, v] 35)) #[.int .i64 0, .int .i64 0, .slice none 0 0] 27
  have hb0 : Below w.heap.size w ((w.alloc (.cells #[.int .i64 n, v] 35)).alloc (.cells #[.int .i64 0, .int .i64 0, .slice none 0 0] 27)) := ((Below.refl _ _).alloc (Nat.le_refl _) _).alloc (by simp) _
  have hrA := reads_alloc (reads_alloc h (.cells #[.int .i64 n, v] 35)) (.cells #[.int .i64 0, .int .i64 0, .slice none 0 0] 27)
  have hsz0 : ((w.alloc (.cells #[.int .i64 n, v] 35)).alloc (.cells #[.int .i64 0, .int .i64 0, .slice none 0 0] 27)).heap.size = w.heap.size + 1 + 1 := by simp
  simp only [World.size_alloc] at hR0
  go_enter Try.func47, Try.ntmps47
  go_wp2_with fail
  generalize ((w.alloc (.cells #[.int .i64 n, v] 35)).alloc (.cells #[.int .i64 0, .int .i64 0, .slice none 0 0] 27)) = w0 at *
  have A0 := hA0.cell 0 rfl
  have A1 := hA0.cell 1 rfl
  go_wp2_with fail
  refine (bok_spec (w.heap.size) 0 n v l _ A0 A1 hrA).mono ?_
  rintro e w1 ⟨rfl, hs1⟩
  have hA1 := hA0.below hs1
  have hR1 := hR0.below hs1
  replace hrA := hrA.below hs1
  have hb1 := hb0.trans (hs1.mono hb0.size)
  have hsz1 := hs1.size
  clear hs1 hA0 hR0 hb0 A0 A1
  have A0 := hA1.cell 0 rfl
  have A1 := hA1.cell 1 rfl
  cases e1 : okB n l with
  | false =>
    have R0 := hR1.cell 0 rfl
    have R1 := hR1.cell 1 rfl
    have R2 := hR1.cell 2 rfl
    have F0 := hR1.frozen 0
    have F1 := hR1.frozen 1
    have F2 := hR1.frozen 2
    have g5 := ((hR1.set 0 (.int .i64 0)).set 1 (.int .i64 0)).set 2 (.slice none 0 0)
    have g0 := g5.cell 0 rfl
    have g1 := g5.cell 1 rfl
    have g2 := g5.cell 2 rfl
    go_wp2_with fail
    refine bodyPost_ret (v := .tuple #[.agg #[.int .i64 0, .int .i64 0, .slice none 0 0], .bool false]) (by simp [g0, g1, g2, results, Try.results47, go_sem]) rfl ⟨_, by unfold nfN nfP; rw [e1]; rfl, by unfold nfL; rw [e1]; exact RdII.empty _ _ _, ((hb1.setCell (by simp) _).setCell (by simp) _).setCell (by simp) _⟩
  | true =>
  replace e1 := hid e1
  obtain ⟨a, rfl⟩ := Int.eq_ofNat_of_zero_le (okB_of e1.out).1
  have q1 := (okB_of e1.out)
  obtain ⟨_, q3, q4, -⟩ := q1
  have hR1' := hid hR1
  have hb1' := hid hb1
  clear hR1 hb1
  go_wp2_with fail
  refine (normal_spec a v l w1 hrA (by omega) (Wok.of e1.out) (by omega)).mono ?_
  rintro e w3 ⟨o, us, rfl, ho, hrw, hs3⟩
  obtain ⟨oa, on, oc, rfl⟩ := own_lit ho
  have hO := RdII.of ho hrw (Nat.le_refl _)
  have hR3 := hR1'.out.below hs3
  have hb3 := hid (hb1'.out.trans (hs3.mono hb1'.out.size))
  have hsz3 := hs3.size
  have R0 := hR3.cell 0 rfl
  have R1 := hR3.cell 1 rfl
  have R2 := hR3.cell 2 rfl
  have F0 := hR3.frozen 0
  have F1 := hR3.frozen 1
  have F2 := hR3.frozen 2
  have g5 := ((hR3.set 0 (.int .i64 a)).set 1 (.int .i64 (nfW a l).1)).set 2 (.slice oa on oc)
  have g0 := g5.cell 0 rfl
  have g1 := g5.cell 1 rfl
  have g2 := g5.cell 2 rfl
  have hE := hid ((((hO.setAt (g := w.heap.size + 1) (by omega) 0 (.int .i64 a)).setAt (g := w.heap.size + 1) (by omega) 1 (.int .i64 (nfW a l).1)).setAt (g := w.heap.size + 1) (by omega) 2 (.slice oa on oc)).lowered (lo' := w.heap.size) (hi' := w3.heap.size) (by omega) (Nat.le_refl _))
  clear hs3 hO hR3 g5 ho hrw
  go_wp2_with fail
  refine bodyPost_ret (v := .tuple #[.agg #[.int .i64 a, .int .i64 (nfW a l).1, .slice oa on oc], .bool true]) (by simp [g0, g1, g2, results, Try.results47, go_sem]) rfl ⟨.slice oa on oc, by unfold nfN nfP; rw [e1.out]; rfl, ?_, ((hb3.out.setCell (by simp) _).setCell (by simp) _).setCell (by simp) _⟩
  unfold nfL
  rw [e1.out]
  exact hE.out.topped (by simp [World.setCell])


set_option maxRecDepth 100000 in
set_option maxHeartbeats 4000000 in
theorem vnf_impl (n : Int) (v : Value) (l : List Int) (w : World) (h : Reads w v (ints l)) :
    Calls Try.prog 26 #[.agg #[.int .i64 n, v]] w fun e w' => ∃ x, e = .returned (.tuple #[.agg #[.int .i64 (nfN n l), .int .i64 (nfP n l), x], .bool (okB n l)]) ∧ OwnII w' w.heap.size w'.heap.size 32 2 x (nfL n l) ∧ Below w.heap.size w w' := by
  have hA0 := (Bx.new w #[.int .i64 n, v] 35).alloc (.cells #[.int .i64 0, .int .i64 0, .slice none 0 0] 27)
  have hR0 := Bx.new (w.alloc (.cells #[.int .i64 n, v] 35)) #[.int .i64 0, .int .i64 0, .slice none 0 0] 27
  have hb0 : Below w.heap.size w ((w.alloc (.cells #[.int .i64 n, v] 35)).alloc (.cells #[.int .i64 0, .int .i64 0, .slice none 0 0] 27)) := ((Below.refl _ _).alloc (Nat.le_refl _) _).alloc (by simp) _
  have hrA := reads_alloc (reads_alloc h (.cells #[.int .i64 n, v] 35)) (.cells #[.int .i64 0, .int .i64 0, .slice none 0 0] 27)
  have hsz0 : ((w.alloc (.cells #[.int .i64 n, v] 35)).alloc (.cells #[.int .i64 0, .int .i64 0, .slice none 0 0] 27)).heap.size = w.heap.size + 1 + 1 := by simp
  simp only [World.size_alloc] at hR0
  go_enter Try.func26, Try.ntmps26
  go_wp2_with fail
  generalize ((w.alloc (.cells #[.int .i64 n, v] 35)).alloc (.cells #[.int .i64 0, .int .i64 0, .slice none 0 0] 27)) = w0 at *
  have A0 := hA0.cell 0 rfl
  have A1 := hA0.cell 1 rfl
  go_wp2_with fail
  refine (vb_impl n v l _ hrA).mono ?_
  rintro e w1 ⟨rfl, hs1⟩
  have hA1 := hA0.below hs1
  have hR1 := hR0.below hs1
  replace hrA := hrA.below hs1
  have hb1 := hb0.trans (hs1.mono hb0.size)
  have hsz1 := hs1.size
  clear hs1 hA0 hR0 hb0 A0 A1
  have A0 := hA1.cell 0 rfl
  have A1 := hA1.cell 1 rfl
  cases e1 : okB n l with
  | false =>
    have R0 := hR1.cell 0 rfl
    have R1 := hR1.cell 1 rfl
    have R2 := hR1.cell 2 rfl
    have F0 := hR1.frozen 0
    have F1 := hR1.frozen 1
    have F2 := hR1.frozen 2
    have g5 := ((hR1.set 0 (.int .i64 0)).set 1 (.int .i64 0)).set 2 (.slice none 0 0)
    have g0 := g5.cell 0 rfl
    have g1 := g5.cell 1 rfl
    have g2 := g5.cell 2 rfl
    go_wp2_with fail
    refine bodyPost_ret (v := .tuple #[.agg #[.int .i64 0, .int .i64 0, .slice none 0 0], .bool false]) (by simp [g0, g1, g2, results, Try.results26, go_sem]) rfl ⟨_, by unfold nfN nfP; rw [e1]; rfl, by unfold nfL; rw [e1]; exact OwnII.empty _ _ _, ((hb1.setCell (by simp) _).setCell (by simp) _).setCell (by simp) _⟩
  | true =>
  replace e1 := hid e1
  obtain ⟨a, rfl⟩ := Int.eq_ofNat_of_zero_le (okB_of e1.out).1
  have q1 := (okB_of e1.out)
  obtain ⟨_, q3, q4, -⟩ := q1
  have hR1' := hid hR1
  have hb1' := hid hb1
  clear hR1 hb1
  go_wp2_with fail
  refine (normal_impl a v l w1 hrA (by omega) (Wok.of e1.out) (by omega)).mono ?_
  rintro e w3 ⟨o, us, rfl, hN, hs3⟩
  obtain ⟨oa, on, oc, rfl⟩ := own_lit hN.own
  have hO := hN.ownII
  have hR3 := hR1'.out.below hs3
  have hb3 := hid (hb1'.out.trans (hs3.mono hb1'.out.size))
  have hsz3 := hs3.size
  have R0 := hR3.cell 0 rfl
  have R1 := hR3.cell 1 rfl
  have R2 := hR3.cell 2 rfl
  have F0 := hR3.frozen 0
  have F1 := hR3.frozen 1
  have F2 := hR3.frozen 2
  have g5 := ((hR3.set 0 (.int .i64 a)).set 1 (.int .i64 (nfW a l).1)).set 2 (.slice oa on oc)
  have g0 := g5.cell 0 rfl
  have g1 := g5.cell 1 rfl
  have g2 := g5.cell 2 rfl
  have hE := hid ((((hO.setAt (g := w.heap.size + 1) (by omega) 0 (.int .i64 a)).setAt (g := w.heap.size + 1) (by omega) 1 (.int .i64 (nfW a l).1)).setAt (g := w.heap.size + 1) (by omega) 2 (.slice oa on oc)).lowered (lo' := w.heap.size) (hi' := w3.heap.size) (by omega) (Nat.le_refl _))
  clear hs3 hO hR3 g5 hN
  go_wp2_with fail
  refine bodyPost_ret (v := .tuple #[.agg #[.int .i64 a, .int .i64 (nfW a l).1, .slice oa on oc], .bool true]) (by simp [g0, g1, g2, results, Try.results26, go_sem]) rfl ⟨.slice oa on oc, by unfold nfN nfP; rw [e1.out]; rfl, ?_, ((hb3.out.setCell (by simp) _).setCell (by simp) _).setCell (by simp) _⟩
  unfold nfL
  rw [e1.out]
  exact hE.out.topped (by simp [World.setCell])


end Go.Proofs.Ytmeccemnmkobbaa

namespace Go.Proofs.Ytmeccemnmkobbaa
open Go.RowKit

def repW : Nat → List Int → List Int
  | 0, _ => []
  | k + 1, t => repW k t ++ t
def flatW (ls : List (List Int)) : Nat → List Int
  | 0 => []
  | k + 1 => flatW ls k ++ lettersF (rat ls k)
def halfW (n : Int) : List Int := lettersF (halfF n.toNat)
def wordN (n p : Int) (ls : List (List Int)) : List Int := repW p.toNat (halfW n) ++ repW (-p).toNat (invW (halfW n)) ++ flatW ls ls.length
theorem length_repW (k : Nat) (t : List Int) : (repW k t).length = k * t.length := by
  induction k with
  | zero => simp [repW]
  | succ k ih => rw [repW, List.length_append, ih, Nat.succ_mul]
theorem letters_small {l : List Int} (h : l.length ≤ 12) : (lettersF l).length ≤ 144 := by
  have h1 := redF_len l
  have h2 := invs_small h
  rw [length_lettersF]; omega
theorem flatW_len {ls : List (List Int)} (h : ∀ i, i < ls.length → (rat ls i).length ≤ 12) (k : Nat) (hk : k ≤ ls.length) : (flatW ls k).length ≤ k * 144 := by
  induction k with
  | zero => simp [flatW]
  | succ k ih =>
    have := ih (by omega)
    have := letters_small (h k (by omega))
    rw [flatW, List.length_append, Nat.succ_mul]; omega
theorem letters_bd (l : List Int) (i : Nat) (h : i < (lettersF l).length) : 1 ≤ nth (lettersF l) i ∧ nth (lettersF l) i < l.length := by
  rw [length_lettersF] at h
  have := redF_bd i h
  unfold lettersF
  rw [nth_map _ h]; omega
theorem halfW_bd {n : Int} (h : n ≤ 12) : ∀ i, i < (halfW n).length → -1000 ≤ nth (halfW n) i ∧ nth (halfW n) i ≤ 1000 := fun i hi => by
  have := letters_bd (halfF n.toNat) i hi
  rw [length_halfF] at this
  change -1000 ≤ nth (lettersF (halfF n.toNat)) i ∧ nth (lettersF (halfF n.toNat)) i ≤ 1000
  omega
theorem normB_of {n p : Int} {ls : List (List Int)} (h : normB n p ls = true) : 0 ≤ n ∧ n ≤ 12 ∧ -100 ≤ p ∧ p ≤ 100 ∧ ls.length ≤ 100 ∧ (2 ≤ n ∨ p = 0) ∧ ∀ i, i < ls.length → facOk n ls i = true := by
  unfold normB at h
  simp only [Bool.and_eq_true, decide_eq_true_eq, List.all_eq_true, List.mem_range, Bool.or_eq_true, beq_iff_eq] at h
  obtain ⟨⟨⟨⟨h1, h2⟩, h3⟩, h4⟩, h5⟩ := h
  have a := inB_yes' h1
  have b := inB_yes' h2
  exact ⟨a.1, a.2, b.1, b.2, h3, h4, h5⟩
theorem normB_row {n p : Int} {ls : List (List Int)} (h : normB n p ls = true) (i : Nat) (hi : i < ls.length) : (rat ls i).length ≤ 12 := by
  have h1 := normB_of h
  have := (facOk_of (h1.2.2.2.2.2.2 i hi)).1
  omega
def codeBN (n p : Int) (ls : List (List Int)) : Int := if normB n p ls then (if (wordN n p ls).length ≤ 40 then 0 else 5) else 1
def nBN (n p : Int) (ls : List (List Int)) : Int := if codeBN n p ls = 0 then n else 0
def lBN (n p : Int) (ls : List (List Int)) : List Int := if codeBN n p ls = 0 then wordN n p ls else []

/-- a word o that grows in its own memory, and a word T that is put behind it -/
structure WT (w wr : World) (C B : Nat) (o T : Value) (xs ys : List Int) : Prop where
  own : Own wr B 2 o (ints xs)
  tw : Reads wr T (ints ys)
  ap : ∀ k, blk T = some k → blk o ≠ some k ∧ k < wr.heap.size
  bel : Below C w wr
  cb : C ≤ B
  sz : B ≤ wr.heap.size
theorem WT.next {w wr w' : World} {C B : Nat} {o T : Value} {xs ys : List Int} (h : WT w wr C B o T xs ys) (hb : Below wr.heap.size wr w') : WT w w' C B o T xs ys :=
  ⟨h.own.below hb, h.tw.below hb, fun k hk => ⟨(h.ap k hk).1, by have := (h.ap k hk).2; have := hb.size; omega⟩, h.bel.trans (hb.mono (by have := h.sz; have := h.cb; omega)), h.cb, by have := h.sz; have := hb.size; omega⟩
theorem WT.app {w wr : World} {C B : Nat} {o T u : Value} {xs ys zs : List Int} (h : WT w wr C B o T xs ys) (hu : Reads wr u (ints zs)) (hl : xs.length + zs.length ≤ 1048576) :
    ∃ v' w', (Builtin.append_ #[32, 32] 32 #[o, u]).run Try.prog wr = .ok v' w' ∧ WT w w' C B v' T (xs ++ zs) ys ∧ wr.grownBy w' (blk o) := by
  have hB := h.sz
  obtain ⟨v', w', hr, ho, hg, hst⟩ := app_runF (T := 32) (ty := 32) (xs := ints xs) (ys := ints zs) sliceI infoI rfl h.own hu (oneCell_ints zs) hB (by simp; omega) (by decide)
  refine ⟨v', w', hr, ⟨by simpa [ints] using ho, h.tw.grown hg fun k hk => (h.ap k hk).1, fun k hk => ⟨fun e => ?_, ?_⟩, h.bel.grown hg (by have := h.cb; omega) fun k hk => by have := (h.own.blk_lt hk).1; have := h.cb; omega, h.cb, by have := hg.size; omega⟩, hg⟩
  · rcases hst k e with h1 | h1
    · exact (h.ap k hk).1 h1
    · have := (h.ap k hk).2; omega
  · have := (h.ap k hk).2; have := hg.size; omega
theorem WT.set {w wr : World} {C B g : Nat} {o T : Value} {xs ys : List Int} (h : WT w wr C B o T xs ys) (h1 : C ≤ g) (h2 : g < B) (h3 : blk T ≠ some g) (i : Nat) (x : Value) : WT w (wr.setCell ⟨g, i, none⟩ x) C B o T xs ys :=
  ⟨h.own.set_block h2 i x, h.tw.keep fun k hk _ => Below.heap_setCell _ _ _ _ (fun e => h3 (by rw [hk]; simp at e; rw [e])), fun k hk => ⟨(h.ap k hk).1, by simpa [World.setCell] using (h.ap k hk).2⟩, h.bel.setCell h1 x, h.cb, by simpa [World.setCell] using h.sz⟩


set_option maxRecDepth 100000 in
set_option maxHeartbeats 8000000 in
theorem vbn_spec (n p : Int) (v : Value) (ls : List (List Int)) (w : World) (h : ReadsII w v ls) :
    Calls Try.prog 36 #[.agg #[.int .i64 n, .int .i64 p, v]] w fun e w' => ∃ x, e = .returned (.tuple #[.agg #[.int .i64 (nBN n p ls), x], .int .i64 (codeBN n p ls)]) ∧ Own w' w.heap.size 2 x (ints (lBN n p ls)) ∧ Below w.heap.size w w' := by
  obtain ⟨vs, hv0, hvr0⟩ := (h.alloc (.cells #[.int .i64 n, .int .i64 p, v] 27)).alloc (.cells #[.int .i64 0, .slice none 0 0] 35)
  have hA0 := (Bx.new w #[.int .i64 n, .int .i64 p, v] 27).alloc (.cells #[.int .i64 0, .slice none 0 0] 35)
  have hR0 := Bx.new (w.alloc (.cells #[.int .i64 n, .int .i64 p, v] 27)) #[.int .i64 0, .slice none 0 0] 35
  have hb0 : Below w.heap.size w ((w.alloc (.cells #[.int .i64 n, .int .i64 p, v] 27)).alloc (.cells #[.int .i64 0, .slice none 0 0] 35)) := ((Below.refl _ _).alloc (Nat.le_refl _) _).alloc (by simp) _
  have hsz0 : ((w.alloc (.cells #[.int .i64 n, .int .i64 p, v] 27)).alloc (.cells #[.int .i64 0, .slice none 0 0] 35)).heap.size = w.heap.size + 1 + 1 := by simp
  simp only [World.size_alloc] at hR0
  go_enter Try.func36, Try.ntmps36
  go_wp2_with fail
  generalize ((w.alloc (.cells #[.int .i64 n, .int .i64 p, v] 27)).alloc (.cells #[.int .i64 0, .slice none 0 0] 35)) = w0 at *
  refine (l04ok_spec w.heap.size n p v vs ls w0 hA0 hv0 hvr0).mono ?_
  rintro e w1 ⟨rfl, hs1⟩
  have hsz1 := hs1.size
  have hA1 := hA0.below hs1
  have hR1 := hR0.below hs1
  have hv1 := hv0.below hs1
  have hvr1 := hvr0.below hs1
  have hb1 := hb0.trans (hs1.mono hb0.size)
  clear hs1 hA0 hR0 hb0 hv0 hvr0 h
  have A0 := hA1.cell 0 rfl
  cases e1 : normB n p ls with
  | false =>
    have hcode : codeBN n p ls = 1 := by unfold codeBN; rw [e1]; rfl
    have R0 := hR1.cell 0 rfl
    have R1 := hR1.cell 1 rfl
    have F0 := hR1.frozen 0
    have F1 := hR1.frozen 1
    have g5 := (hR1.set 0 (.int .i64 0)).set 1 (.slice none 0 0)
    have g0 := g5.cell 0 rfl
    have g1 := g5.cell 1 rfl
    go_wp2_with fail
    refine bodyPost_ret (v := .tuple #[.agg #[.int .i64 0, .slice none 0 0], .int .i64 1]) (by simp [g0, g1, results, Try.results36, go_sem]) rfl ⟨_, by unfold nBN; rw [hcode]; rfl, by unfold lBN; rw [hcode]; exact own_nil _ _ _, (hb1.setCell (by simp) _).setCell (by simp) _⟩
  | true =>
  have q := normB_of e1
  obtain ⟨q0, q1, q2, q3, q4, q5, q6⟩ := q
  have hrow := hid (normB_row e1)
  have hwl := hid (flatW_len hrow.out)
  replace e1 := hid e1
  replace q6 := hid q6
  have hvl := hvr1.len
  have hhl : (halfF n.toNat).length ≤ 12 := by rw [length_halfF]; omega
  have htl : (halfW n).length ≤ 144 := letters_small hhl
  have hr1 := length_repW p.toNat (halfW n)
  have hr2 := length_repW (-p).toNat (invW (halfW n))
  rw [length_invW] at hr2
  have hm1 := Nat.mul_le_mul (show p.toNat ≤ 100 by omega) htl
  have hm2 := Nat.mul_le_mul (show (-p).toNat ≤ 100 by omega) htl
  have hA1' := hid hA1
  replace hR1 := hid hR1
  replace hb1 := hid hb1
  replace hv1 := hid hv1
  replace hvr1 := hid hvr1
  have hA2 := hA1.alloc (.cells #[] 2)
  have ho2 := own_empty w1 2 (Nat.le_refl w1.heap.size)
  have hb2 : Below w1.heap.size w1 (w1.alloc (.cells #[] 2)) := (Below.refl _ _).alloc (Nat.le_refl _) _
  have hz2 : (w1.alloc (.cells #[] 2)).heap.size = w1.heap.size + 1 := by simp
  have C0 := hA2.cell 0 rfl
  clear A0 hA1
  go_wp2_with fail
  generalize hoe : Value.slice (some ⟨w1.heap.size, 0, none⟩) 0 0 = o0 at *
  generalize w1.alloc (.cells #[] 2) = w2 at *
  refine (half_spec n _ (by omega) (by omega)).mono ?_
  rintro e w3 ⟨y, rfl, hy, hs3⟩
  have hz3 := hs3.size
  have hA3 := hA2.below hs3
  have ho3 := ho2.below hs3
  have hb3 := hb2.trans (hs3.mono (by omega))
  clear hA2 ho2 hb2 C0 hs3
  go_wp2_with fail
  refine (word_spec4 y (halfF n.toNat) w3 hy.reads (by omega) (by have := invs_small hhl; omega)).mono ?_
  rintro e w4 ⟨T, rfl, hT, hs4⟩
  have hz4 := hs4.size
  have hA4 := hA3.below hs4
  have hW0 : WT w1 w4 w1.heap.size w1.heap.size o0 T [] (halfW n) := ⟨ho3.below hs4, hT.reads, fun k hk => ⟨fun e => by have := hT.blk_lt hk; have := ho3.blk_lt e; omega, (hT.blk_lt hk).2⟩, hb3.trans (hs4.mono (by omega)), Nat.le_refl _, by omega⟩
  clear hA3 ho3 hb3 hs4 hT hy hoe
  go_wp2_with fail
  go_loopw [4, 6] (fun o i wr => ∃ k : Nat, k ≤ p.toNat ∧ i = .int .i64 k ∧ WT w1 wr w1.heap.size w1.heap.size o T (repW k (halfW n)) (halfW n)) (fun _ i _ => p.toNat - (intOf i).toNat)
  case atStart => exact ⟨0, by omega, rfl, hW0⟩
  case round =>
    clear hW0
    obtain ⟨k, hk, rfl, hW⟩ := hrel
    have hX := hA1'.out.keep (hW.bel.block _ (by omega))
    have A1 := hX.cell 1 rfl
    by_cases hlt : (k : Int) < p
    case pos =>
      have hkl := length_repW k (halfW n)
      have hkm := Nat.mul_le_mul (show k ≤ 100 by omega) htl
      obtain ⟨v', w', hrun, hW', -⟩ := hW.app hW.tw (by omega)
      clear hW hX
      go_wp2_with (at_builtin; refine wpList_app hrun rfl _ _ rfl rfl rfl ?_)
      go_roundw
      case rel => exact ⟨k + 1, by omega, by go_num, hW'⟩
      case measure => simp [intOf]; omega
    case neg =>
    obtain rfl : k = p.toNat := by omega
    replace hW := hid hW
    clear hX
    go_wp2_with fail
    go_loopw [4, 7] (fun o i wr => ∃ k : Nat, k ≤ (-p).toNat ∧ i = .int .i64 (-(k : Int)) ∧ WT w1 wr w1.heap.size w1.heap.size o T (repW p.toNat (halfW n) ++ repW k (invW (halfW n))) (halfW n)) (fun _ i _ => (-p).toNat - (-(intOf i)).toNat)
    case atStart => exact ⟨0, by omega, rfl, by have := hW.out; simpa [repW] using this⟩
    case round =>
      clear hW
      obtain ⟨k, hk, rfl, hW⟩ := hrel
      have hX := hA1'.out.keep (hW.bel.block _ (by omega))
      have A1 := hX.cell 1 rfl
      by_cases hlt : p < -(k : Int)
      case pos =>
        have hkl := length_repW k (invW (halfW n))
        rw [length_invW] at hkl
        have hkm := Nat.mul_le_mul (show k ≤ 100 by omega) htl
        go_wp2_with fail
        refine (inv_spec' T (halfW n) wr hW.tw (by omega) (halfW_bd (by omega))).mono ?_
        rintro e w5 ⟨u, rfl, hu, hs5⟩
        obtain ⟨v', w', hrun, hW', -⟩ := (hW.next hs5).app hu.reads (by rw [length_invW, List.length_append]; omega)
        clear hW hX hu hs5
        go_wp2_with (at_builtin; refine wpList_app hrun rfl _ _ rfl rfl rfl ?_)
        go_roundw
        case rel => exact ⟨k + 1, by omega, by go_num, by rw [List.append_assoc] at hW'; exact hW'⟩
        case measure => simp [intOf] <;> omega
      case neg =>
      obtain rfl : k = (-p).toNat := by omega
      replace hW := hid hW
      clear hX
      go_wp2_with fail
      go_loopw [4, 8] (fun o i wr => ∃ j : Nat, j ≤ ls.length ∧ i = .int .i64 j ∧ WT w1 wr w1.heap.size w1.heap.size o T (repW p.toNat (halfW n) ++ repW (-p).toNat (invW (halfW n)) ++ flatW ls j) (halfW n)) (fun _ i _ => ls.length - (intOf i).toNat)
      case atStart => exact ⟨0, by omega, rfl, by have := hW.out; simpa [flatW] using this⟩
      case round =>
        clear hW
        obtain ⟨j, hj, rfl, hW⟩ := hrel
        have hX := hA1'.out.keep (hW.bel.block _ (by omega))
        have A2 := hX.cell 2 rfl
        have hfl := hwl.out j hj
        have hln := hv1.out.len (P := Try.prog) 22 3 ⟨_, sliceII⟩
        rw [hvl] at hln
        by_cases hlt : j < ls.length
        case pos =>
          have hi := hv1.out.idx 22 sliceII sizeSI .i64 j (by omega) (by rw [hvl]; omega)
          simp only [Int.toNat_natCast] at hi
          have hc := (hv1.out.below hW.bel).cell j _ (vat_of (by omega))
          have hrw := (hvr1.out.row j hlt).below hW.bel
          have hr12 := hrow.out j hlt
          have hll := letters_small hr12
          go_wp2_with fail
          refine (word_spec4 _ (rat ls j) wr hrw (by omega) (by have := invs_small hr12; omega)).mono ?_
          rintro e w5 ⟨u, rfl, hu, hs5⟩
          obtain ⟨v', w', hrun, hW', -⟩ := (hW.next hs5).app hu.reads (by rw [List.length_append, List.length_append]; omega)
          clear hW hX hu hs5 hrw hc
          go_wp2_with (at_builtin; refine wpList_app hrun rfl _ _ rfl rfl rfl ?_)
          go_roundw
          case rel => exact ⟨j + 1, by omega, by go_num, by rw [List.append_assoc] at hW'; exact hW'⟩
          case measure => simp [intOf]; omega
        case neg =>
          obtain rfl : j = ls.length := by omega
          have hwe : repW p.toNat (halfW n) ++ repW (-p).toNat (invW (halfW n)) ++ flatW ls ls.length = wordN n p ls := rfl
          rw [hwe] at hW
          have hbt : Below w.heap.size w wr := hb1.out.trans (hW.bel.mono (by omega))
          have hR := hR1.out.keep (hW.bel.block _ (by omega))
          have A0 := hX.cell 0 rfl
          have R0 := hR.cell 0 rfl
          have R1 := hR.cell 1 rfl
          have F0 := hR.frozen 0
          have F1 := hR.frozen 1
          have hlw := hW.own.reads.len (P := Try.prog) 32 3 ⟨_, sliceI⟩
          rw [length_ints] at hlw
          obtain ⟨oa, on, oc, rfl⟩ : ∃ a m c, u4 = Value.slice a m c := by obtain ⟨a, c, e⟩ := hW.own.form3'; exact ⟨a, _, c, e⟩
          by_cases h40 : (wordN n p ls).length ≤ 40
          · have hcode : codeBN n p ls = 0 := by unfold codeBN; rw [e1.out, if_pos rfl, if_pos h40]
            have h40' : ¬ (40 : Int) < ((wordN n p ls).length : Int) := by omega
            have g5 := (hR.set 0 (.int .i64 n)).set 1 (.slice oa on oc)
            have g0 := g5.cell 0 rfl
            have g1 := g5.cell 1 rfl
            have hE := hid (((hW.own.mono (B' := w.heap.size + 1 + 1) (by omega)).set_block (g := w.heap.size + 1) (by omega) 0 (.int .i64 n)).set_block (g := w.heap.size + 1) (by omega) 1 (.slice oa on oc))
            have hbt' := hid hbt
            clear hW hX hR g5 hbt h40
            go_wp2_with fail
            refine bodyPost_ret (v := .tuple #[.agg #[.int .i64 n, .slice oa on oc], .int .i64 0]) (by simp [g0, g1, results, Try.results36, go_sem]) rfl ⟨_, by unfold nBN; rw [hcode]; rfl, by unfold lBN; rw [hcode]; exact hE.out.mono (by omega), (hbt'.out.setCell (by simp) _).setCell (by simp) _⟩
          · have hcode : codeBN n p ls = 5 := by unfold codeBN; rw [e1.out, if_pos rfl, if_neg h40]
            have h40' : (40 : Int) < ((wordN n p ls).length : Int) := by omega
            have g5 := (hR.set 0 (.int .i64 0)).set 1 (.slice none 0 0)
            have g0 := g5.cell 0 rfl
            have g1 := g5.cell 1 rfl
            have hbt' := hid hbt
            clear hW hX hR g5 hbt h40
            go_wp2_with fail
            refine bodyPost_ret (v := .tuple #[.agg #[.int .i64 0, .slice none 0 0], .int .i64 5]) (by simp [g0, g1, results, Try.results36, go_sem]) rfl ⟨_, by unfold nBN; rw [hcode]; rfl, by unfold lBN; rw [hcode]; exact own_nil _ _ _, (hbt'.out.setCell (by simp) _).setCell (by simp) _⟩


set_option maxRecDepth 100000 in
set_option maxHeartbeats 8000000 in
theorem vbn_impl (n p : Int) (v : Value) (ls : List (List Int)) (w : World) (h : ReadsII w v ls) :
    Calls Try.prog 37 #[.agg #[.int .i64 n, .int .i64 p, v]] w fun e w' => ∃ x, e = .returned (.tuple #[.agg #[.int .i64 (nBN n p ls), x], .int .i64 (codeBN n p ls)]) ∧ Own w' w.heap.size 2 x (ints (lBN n p ls)) ∧ Below w.heap.size w w' := by
  have h0 := (h.alloc (.cells #[.int .i64 n, .int .i64 p, v] 27)).alloc (.cells #[.int .i64 0, .slice none 0 0] 35)
  have hA0 := (Bx.new w #[.int .i64 n, .int .i64 p, v] 27).alloc (.cells #[.int .i64 0, .slice none 0 0] 35)
  have hR0 := Bx.new (w.alloc (.cells #[.int .i64 n, .int .i64 p, v] 27)) #[.int .i64 0, .slice none 0 0] 35
  have hb0 : Below w.heap.size w ((w.alloc (.cells #[.int .i64 n, .int .i64 p, v] 27)).alloc (.cells #[.int .i64 0, .slice none 0 0] 35)) := ((Below.refl _ _).alloc (Nat.le_refl _) _).alloc (by simp) _
  have hsz0 : ((w.alloc (.cells #[.int .i64 n, .int .i64 p, v] 27)).alloc (.cells #[.int .i64 0, .slice none 0 0] 35)).heap.size = w.heap.size + 1 + 1 := by simp
  simp only [World.size_alloc] at hR0
  go_enter Try.func37, Try.ntmps37
  go_wp2_with fail
  generalize ((w.alloc (.cells #[.int .i64 n, .int .i64 p, v] 27)).alloc (.cells #[.int .i64 0, .slice none 0 0] 35)) = w0 at *
  have A0 := hA0.cell 0 rfl
  have A1 := hA0.cell 1 rfl
  have A2 := hA0.cell 2 rfl
  go_wp2_with fail
  refine (vn_impl n p v ls w0 h0).mono ?_
  clear A0 A1 A2
  rintro e w1 ⟨rfl, hs1⟩
  have hsz1 := hs1.size
  have hA1 := hA0.below hs1
  have hR1 := hR0.below hs1
  obtain ⟨vs, hv1, hvr1⟩ := h0.below hs1
  have hb1 := hb0.trans (hs1.mono hb0.size)
  clear hs1 hA0 hR0 hb0 h0 h
  have A0 := hA1.cell 0 rfl
  have A1 := hA1.cell 1 rfl
  cases e1 : normB n p ls with
  | false =>
    have hcode : codeBN n p ls = 1 := by unfold codeBN; rw [e1]; rfl
    have R0 := hR1.cell 0 rfl
    have R1 := hR1.cell 1 rfl
    have F0 := hR1.frozen 0
    have F1 := hR1.frozen 1
    have g5 := (hR1.set 0 (.int .i64 0)).set 1 (.slice none 0 0)
    have g0 := g5.cell 0 rfl
    have g1 := g5.cell 1 rfl
    go_wp2_with fail
    refine bodyPost_ret (v := .tuple #[.agg #[.int .i64 0, .slice none 0 0], .int .i64 1]) (by simp [g0, g1, results, Try.results37, go_sem]) rfl ⟨_, by unfold nBN; rw [hcode]; rfl, by unfold lBN; rw [hcode]; exact own_nil _ _ _, (hb1.setCell (by simp) _).setCell (by simp) _⟩
  | true =>
  have q := normB_of e1
  obtain ⟨q0, q1, q2, q3, q4, q5, q6⟩ := q
  have hrow := hid (normB_row e1)
  have hwl := hid (flatW_len hrow.out)
  replace e1 := hid e1
  replace q6 := hid q6
  have hvl := hvr1.len
  have hhl : (halfF n.toNat).length ≤ 12 := by rw [length_halfF]; omega
  have htl : (halfW n).length ≤ 144 := letters_small hhl
  have hrl : (redF (halfF n.toNat)).length ≤ 144 := by have := letters_small hhl; rwa [length_lettersF] at this
  have hA1' := hid hA1
  replace hR1 := hid hR1
  replace hb1 := hid hb1
  replace hv1 := hid hv1
  replace hvr1 := hid hvr1
  go_wp2_with fail
  refine (half_impl n _ (by omega) (by omega)).mono ?_
  rintro e w3 ⟨y, rfl, hy, hs3⟩
  have hz3 := hs3.size
  replace hs3 := hid hs3
  clear hA1 A0 A1
  go_wp2_with fail
  refine (letters_impl4 y (halfF n.toNat) w3 hy.reads (by omega) (by have := invs_small hhl; omega) (by omega) (fun i hi => by have := redF_bd i hi; omega)).mono ?_
  rintro e w4 ⟨T, rfl, hT, hs4⟩
  have hz4 := hs4.size
  have hb4 := hid (hs3.out.trans (hs4.mono hz3))
  clear hs4 hy hs3
  have A0 := (hA1'.out.below hb4.out).cell 0 rfl
  have A1 := (hA1'.out.below hb4.out).cell 1 rfl
  have hxs : ∃ (ys : List Int) (K : Nat), ys = (if p < 0 then invW (halfW n) else halfW n) ∧ K = p.natAbs := ⟨_, _, rfl, rfl⟩
  obtain ⟨ys, K, hys, hK⟩ := hxs
  have hyl : ys.length ≤ 144 := by rw [hys]; split <;> (first | (rw [length_invW]; omega) | omega)
  have hwe : wordN n p ls = repW K ys ++ flatW ls ls.length := by
    unfold wordN
    by_cases hp : p < 0
    · rw [hys, if_pos hp, hK, show p.toNat = 0 by omega, show (-p).toNat = p.natAbs by omega]; rfl
    · rw [hys, if_neg hp, hK, show (-p).toNat = 0 by omega, show p.toNat = p.natAbs by omega]; simp [repW]
  replace hwe := hid hwe
  have hKp : absI p = (K : Int) := by unfold absI; split <;> omega
  have hKl : K ≤ 100 := by omega
  clear hK
  by_cases hp : p < 0
  case' pos =>
    rw [if_pos hp] at hys
    go_wp2_with fail
    refine (inv_impl' T (halfW n) w4 hT.reads (by omega) (halfW_bd q1)).mono ?_
    rintro e w5 ⟨u, rfl, hu, hs5⟩
    rw [← hys] at hu
    have hb5 := hid (hb4.out.trans (hs5.mono (by omega)))
    have hlo5 : w1.heap.size ≤ w5.heap.size := hb5.out.size
    have A0 := (hA1'.out.below hb5.out).cell 0 rfl
    have A1 := (hA1'.out.below hb5.out).cell 1 rfl
    clear hT hs5
  case' neg =>
    rw [if_neg hp] at hys
    obtain ⟨u, w5, hu, hb5, hlo5, hue, hwe5⟩ : ∃ u w5, Own w4 w3.heap.size 2 u (ints ys) ∧ Hid (Below w1.heap.size w1 w4) ∧ w1.heap.size ≤ w5.heap.size ∧ u = T ∧ w5 = w4 := ⟨T, w4, by rw [hys]; exact hT, hb4, by omega, rfl, rfl⟩
    subst hue hwe5
    clear hT
  all_goals
    have hX5 := (hA1'.out.below hb5.out).alloc (.cells #[.int .i64 n, .slice none 0 0] 35)
    have hN5 := Bx.new w5 #[.int .i64 n, .slice none 0 0] 35
    have B1 := hX5.cell 1 rfl
    have hW0 : WT w5 (w5.alloc (.cells #[.int .i64 n, .slice none 0 0] 35)) w5.heap.size (w5.heap.size + 1) (.slice none 0 0) u [] ys := ⟨Own.nilv _ _ _, reads_alloc hu.reads _, fun k hk => ⟨by simp [blk], by have := (hu.blk_lt hk).2; simp; omega⟩, (Below.refl _ _).alloc (Nat.le_refl _) _, by omega, by simp⟩
    have hug : blk u ≠ some w5.heap.size := fun e => by have := (hu.blk_lt e).2; omega
    have hsz5 : (w5.alloc (.cells #[.int .i64 n, .slice none 0 0] 35)).heap.size = w5.heap.size + 1 := by simp
    replace hW0 := hid hW0
    replace hN5 := hid hN5
    replace hX5 := hid hX5
    replace hug := hid hug
    clear hu hys
    go_wp2_with fail
    refine (size_impl p _ (by omega)).mono ?_
    rintro e w6 ⟨rfl, rfl⟩
    rw [hKp]
    go_wp2_with fail
    clear B1
    generalize hWX : w5.alloc (.cells #[.int .i64 n, .slice none 0 0] 35) = wX at *
    clear hWX
    go_loopw [27] (fun i wr => ∃ (k : Nat) (o : Value), k ≤ K ∧ i = .int .i64 k ∧ WT w5 wr w5.heap.size (w5.heap.size + 1) o u (repW k ys) ys ∧ Bx wr w5.heap.size [.int .i64 n, o]) (fun i _ => K - (intOf i).toNat)
    case atStart => exact ⟨0, _, by omega, rfl, hW0.out, hN5.out⟩
    case round =>
      clear hW0 hN5 hX5
      obtain ⟨k, o, hk, rfl, hW, hN⟩ := hrel
      by_cases hlt : k < K
      case pos =>
        have hkl := length_repW k ys
        have hkm := Nat.mul_le_mul (show k ≤ 100 by omega) hyl
        have N1 := hN.cell 1 rfl
        obtain ⟨v', w', hrun, hW', hgr⟩ := hW.app hW.tw (by omega)
        have hN' := hN.grown hgr (fun e => by have := (hW.own.blk_lt e).1; omega)
        obtain ⟨va, vn, vc, rfl⟩ : ∃ a m c, v' = Value.slice a m c := by obtain ⟨a, c, e⟩ := hW'.own.form3'; exact ⟨a, _, c, e⟩
        have M1 := hN'.cell 1 rfl
        have M2 := hN'.frozen 1
        have hW2 := hid (hW'.set (g := w5.heap.size) (Nat.le_refl _) (by omega) hug.out 1 (.slice va vn vc))
        have hN2 := hid (hN'.set 1 (.slice va vn vc))
        clear hW hN hW' hN' hgr
        go_wp2_with (at_builtin; refine wpList_app hrun rfl _ _ rfl rfl rfl ?_)
        go_roundw
        case rel => exact ⟨k + 1, _, by omega, by go_num, hW2.out, hN2.out⟩
        case measure => simp [intOf]; omega
      case neg =>
      obtain rfl : k = K := by omega
      have hX := (hA1'.out.below hb5.out).keep (hW.bel.block _ (by omega))
      have A2 := hX.cell 2 rfl
      have hln := hv1.out.len (P := Try.prog) 22 3 ⟨_, sliceII⟩
      rw [hvl] at hln
      replace hW := hid hW
      replace hN := hid hN
      clear hX
      go_wp2_with fail
      go_loopw [7, 38] (fun _ i wr => ∃ (j : Nat) (o : Value), j ≤ ls.length ∧ i = .int .i64 j ∧ WT w5 wr w5.heap.size (w5.heap.size + 1) o u (repW k ys ++ flatW ls j) ys ∧ Bx wr w5.heap.size [.int .i64 n, o]) (fun _ i _ => ls.length - (intOf i).toNat)
      case atStart => exact ⟨0, o, by omega, rfl, by have := hW.out; simpa [flatW] using this, hN.out⟩
      case round =>
        clear hW hN A2
        obtain ⟨j, o, hj, rfl, hW, hN⟩ := hrel
        have hfl := hwl.out j hj
        have hbw : Below w1.heap.size w1 wr := hb5.out.trans (hW.bel.mono hlo5)
        by_cases hlt : j < ls.length
        case pos =>
          have hi := hv1.out.idx 22 sliceII sizeSI .i64 j (by omega) (by rw [hvl]; omega)
          simp only [Int.toNat_natCast] at hi
          have hc := (hv1.out.below hbw).cell j _ (vat_of (by omega))
          have hrw := hid (fun (w' : World) (hw : Below wr.heap.size wr w') => ((hvr1.out.row j hlt).below hbw).below hw)
          have hr12 := hrow.out j hlt
          have hll := letters_small hr12
          have hrl2 : (redF (rat ls j)).length ≤ 144 := by rwa [length_lettersF] at hll
          have hC := hid (fun (w' : World) (hw : Below wr.heap.size wr w') => letters_impl4 _ (rat ls j) w' (hrw.out w' hw) (by omega) (by have := invs_small hr12; omega) (by omega) (fun i hi => by have := redF_bd i hi; omega))
          have hkl := length_repW k ys
          have hkm := Nat.mul_le_mul (show k ≤ 100 by omega) hyl
          have N1 := hN.drew.cell 1 rfl
          have hbD := hid ((Below.refl wr.heap.size wr).drew)
          have hW' := hid hW
          have hN' := hid hN
          have hdz : wr.drew.heap.size = wr.heap.size := rfl
          clear hW hN hbw
          go_wp2_with fail
          go_region_law ((first | (refine step_call (hC.out _ hbD.out) (fun _ => by kernel_rfl) rfl (.tmp 44) rfl (by simp [Act.eval, Act.put]) ?_; rintro e w7 ⟨x, rfl, hx, hs7⟩; refine ⟨_, rfl, ?_⟩; have hbS : Below wr.heap.size wr w7 := hbD.out.trans hs7; obtain ⟨v', w8, hrun, hW8, hg8⟩ := (hW'.out.next hbS).app hx.reads (by rw [List.length_append]; omega); have hN7 := hN'.out.below hbS; have hN8 := hN7.grown hg8 (fun e => by have := (hW'.out.own.blk_lt e).1; omega); obtain ⟨va, vn, vc, rfl⟩ : ∃ a m c, v' = Value.slice a m c := (by obtain ⟨a, c, e⟩ := hW8.own.form3'; exact ⟨a, _, c, e⟩); have N7 := hN7.cell 1 rfl; have N8 := hN8.cell 1 rfl; have M8 := hN8.frozen 1) | (refine step_app hrun rfl (.tmp 43) (.tmp 45) rfl (by simp [Act.eval]) (by simp [Act.eval]) ?_)))
          all_goals
            have hW2 := hid (hW8.set (g := w5.heap.size) (Nat.le_refl _) (by omega) hug.out 1 (.slice va vn vc))
            have hN2 := hid (hN8.set 1 (.slice va vn vc))
            clear hW' hN' hrw hC hbD hW8 hN8 hN7 hg8 hx hs7 hbS
            go_wp2_with fail
            go_roundw
            case rel => exact ⟨j + 1, _, by omega, by go_num, by have := hW2.out; rw [List.append_assoc] at this; exact this, hN2.out⟩
            case measure => simp [intOf]; omega
        case neg =>
          obtain rfl : j = ls.length := by omega
          rw [← hwe.out] at hW
          have hbt : Below w.heap.size w wr := hb1.out.trans (hbw.mono (by omega))
          have hR := hR1.out.below hbw
          have R0 := hR.cell 0 rfl
          have R1 := hR.cell 1 rfl
          have F0 := hR.frozen 0
          have F1 := hR.frozen 1
          have N0 := hN.cell 0 rfl
          have N1 := hN.cell 1 rfl
          have hlw := hW.own.reads.len (P := Try.prog) 32 3 ⟨_, sliceI⟩
          rw [length_ints] at hlw
          obtain ⟨oa, on, oc, rfl⟩ : ∃ a m c, o = Value.slice a m c := by obtain ⟨a, c, e⟩ := hW.own.form3'; exact ⟨a, _, c, e⟩
          by_cases h40 : (wordN n p ls).length ≤ 40
          · have hcode : codeBN n p ls = 0 := by unfold codeBN; rw [e1.out, if_pos rfl, if_pos h40]
            have h40' : ¬ (40 : Int) < ((wordN n p ls).length : Int) := by omega
            have g5 := (hR.set 0 (.int .i64 n)).set 1 (.slice oa on oc)
            have g0 := g5.cell 0 rfl
            have g1 := g5.cell 1 rfl
            have hE := hid (((hW.own.mono (B' := w.heap.size + 1 + 1) (by omega)).set_block (g := w.heap.size + 1) (by omega) 0 (.int .i64 n)).set_block (g := w.heap.size + 1) (by omega) 1 (.slice oa on oc))
            have hbt' := hid hbt
            clear hW hR g5 hbt h40 hN hbw
            go_wp2_with fail
            refine bodyPost_ret (v := .tuple #[.agg #[.int .i64 n, .slice oa on oc], .int .i64 0]) (by simp [g0, g1, results, Try.results37, go_sem]) rfl ⟨_, by unfold nBN; rw [hcode]; rfl, by unfold lBN; rw [hcode]; exact hE.out.mono (by omega), (hbt'.out.setCell (by simp) _).setCell (by simp) _⟩
          · have hcode : codeBN n p ls = 5 := by unfold codeBN; rw [e1.out, if_pos rfl, if_neg h40]
            have h40' : (40 : Int) < ((wordN n p ls).length : Int) := by omega
            have g5 := (hR.set 0 (.int .i64 0)).set 1 (.slice none 0 0)
            have g0 := g5.cell 0 rfl
            have g1 := g5.cell 1 rfl
            have hbt' := hid hbt
            clear hW hR g5 hbt h40 hN hbw
            go_wp2_with fail
            refine bodyPost_ret (v := .tuple #[.agg #[.int .i64 0, .slice none 0 0], .int .i64 5]) (by simp [g0, g1, results, Try.results37, go_sem]) rfl ⟨_, by unfold nBN; rw [hcode]; rfl, by unfold lBN; rw [hcode]; exact own_nil _ _ _, (hbt'.out.setCell (by simp) _).setCell (by simp) _⟩


end Go.Proofs.Ytmeccemnmkobbaa

namespace Go.Proofs.Ytmeccemnmkobbaa
open Go.RowKit
open Pm

def toPm (n : Nat) (l : List Int) : Pm n := if h : l.length = n ∧ IsPerm l then ⟨l, h⟩ else one n
def toL (n : Nat) (ls : List (List Int)) : List (Pm n) := ls.map (toPm n)
theorem toPm_val {n : Nat} {l : List Int} (h : l.length = n ∧ IsPerm l) : (toPm n l).1 = l := by
  have e : toPm n l = (⟨l, h⟩ : Pm n) := dif_pos h
  exact congrArg Subtype.val e
theorem toL_vals {n : Nat} (L : List (Pm n)) : toL n (vals L) = L := by
  unfold toL vals
  rw [List.map_map]
  conv => rhs; rw [← List.map_id L]
  apply List.map_congr_left
  intro p _
  exact Subtype.ext (toPm_val p.2)
theorem of_rows {n : Nat} {ls : List (List Int)} (h : ∀ i, i < ls.length → (rat ls i).length = n ∧ IsPerm (rat ls i)) : vals (toL n ls) = ls := by
  induction ls with
  | nil => rfl
  | cons l ls ih =>
    have e := ih fun i hi => h (i + 1) (by simpa using hi)
    have h0 : l.length = n ∧ IsPerm l := h 0 (by simp)
    have e2 : (toPm n l).1 = l := toPm_val h0
    show (toPm n l).1 :: vals (toL n ls) = l :: ls
    rw [e, e2]
theorem normB_vals {n : Nat} {p : Int} {ls : List (List Int)} (h : normB n p ls = true) : vals (toL n ls) = ls :=
  of_rows fun i hi => by
    have h1 := facOk_of ((normB_of h).2.2.2.2.2.2 i hi)
    exact ⟨by omega, (okP_of h1.2.1).2⟩
theorem wt_all {n : Nat} {L : List (Pm n)} (h : (gar n).Wt L) : ∀ i, i + 1 < L.length → extraF (pat L i).1 (pat L (i + 1)).1 = 0 := by
  induction L with
  | nil => intro i hi; simp at hi
  | cons x L ih =>
    cases L with
    | nil => intro i hi; simp at hi
    | cons y L =>
      intro i hi
      cases i with
      | zero => exact (extra_iff x y).2 h.1
      | succ i => exact ih h.2 i (by simpa using hi)
theorem normB_nrm {n : Nat} {p : Int} {L : List (Pm n)} (h : normB n p (vals L) = true) : (gar n).Nrm L := by
  obtain ⟨-, -, -, -, -, -, h6⟩ := normB_of h
  have hf : ∀ i, i < L.length → pat L i ≠ one n ∧ pat L i ≠ top n ∧ (i = 0 ∨ extraF (rat (vals L) (i - 1)) (pat L i).1 = 0) := fun i hi => by
    have h1 := facOk_of (h6 i (by simpa using hi))
    rw [rat_vals hi] at h1
    simp only [Int.toNat_natCast] at h1
    exact ⟨fun e => h1.2.2.1 (by rw [e, idn_val]), fun e => h1.2.2.2.1 (by rw [e, half_val]), h1.2.2.2.2⟩
  refine ⟨wt_of_all fun i hi => ?_, fun x hx => ?_⟩
  · rcases (hf (i + 1) hi).2.2 with e | e
    · omega
    · rw [Nat.add_sub_cancel, rat_vals (by omega)] at e; exact e
  · obtain ⟨i, hi, e⟩ := List.getElem_of_mem hx
    have h1 := hf i hi
    have e2 : pat L i = x := by simp [pat, hi, e]
    rw [e2] at h1
    exact ⟨h1.1, h1.2.1⟩
theorem nrm_normB {n : Nat} {p : Int} {L : List (Pm n)} (hn : n ≤ 12) (h : (gar n).Nrm L) (h2 : 2 ≤ n ∨ p = 0) : normB n p (vals L) = (inB p (-100) 100 && decide (L.length ≤ 100)) := by
  have h3 : inB (n : Int) 0 12 = true := by simp [inB]; omega
  have h4 : (decide ((2 : Int) ≤ n) || p == 0) = true := by
    rcases h2 with h2 | h2
    · rw [decide_eq_true (by omega)]; rfl
    · rw [h2]; simp
  have h5 : (List.range (vals L).length).all (facOk n (vals L)) = true := by
    rw [List.all_eq_true]
    intro i hi
    rw [List.mem_range, length_vals] at hi
    have hm : pat L i ∈ L := by simp [pat, hi]
    have h6 := h.2 _ hm
    unfold facOk
    rw [rat_vals hi]
    simp only [Int.toNat_natCast]
    rw [decide_eq_true (by rw [Pm.len]), okP_mk (by rw [Pm.len]; exact hn) (pat L i).2.2, decide_eq_false (fun e => h6.1 (Subtype.ext (e.trans (idn_val n)))), decide_eq_false (fun e => h6.2 (Subtype.ext (e.trans (half_val n))))]
    by_cases e : i = 0
    · rw [e]; rfl
    · have := wt_all h.1 (i - 1) (by omega)
      rw [show i - 1 + 1 = i by omega] at this
      rw [rat_vals (by omega), this]; simp
  unfold normB
  rw [h3, h4, h5, length_vals]
  simp
theorem tw_even {n : Nat} {q : Int} (h : q % 2 = 0) (L : List (Pm n)) : L.map ((gar n).tw q) = L := by
  conv => rhs; rw [← List.map_id L]
  apply List.map_congr_left
  intro x _
  unfold Gar.tw
  rw [if_pos h]; rfl
theorem tw_odd {n : Nat} {q : Int} (h : ¬ q % 2 = 0) (L : List (Pm n)) : L.map ((gar n).tw q) = L.map (gar n).tau := by
  apply List.map_congr_left
  intro x _
  unfold Gar.tw
  rw [if_neg h]
theorem tm_even {q : Int} (h : q % 2 = 0) : (q.tmod 2 != 0) = false := by
  rw [bne_eq_false_iff_eq]; exact Int.tmod_eq_zero_of_dvd (Int.dvd_of_emod_eq_zero h)
theorem tm_odd {q : Int} (h : ¬ q % 2 = 0) : (q.tmod 2 != 0) = true := by
  rw [bne_iff_ne]; intro e; exact h (Int.emod_eq_zero_of_dvd (Int.dvd_of_tmod_eq_zero e))
theorem nrm_tw {n : Nat} {L : List (Pm n)} (h : (gar n).Nrm L) (q p : Int) : (gar n).NF (p, L.map ((gar n).tw q)) = (p, L.map ((gar n).tw q)) := by
  rw [(gar n).NF_tw, (gar n).NF_nrm h]

set_option maxRecDepth 100000 in
set_option maxHeartbeats 8000000 in
theorem join_impl {n : Nat} (p q : Int) (v u : Value) (A B : List (Pm n)) (w : World) (h : ReadsII w v (vals A)) (h' : ReadsII w u (vals B)) (hA : (gar n).Nrm A) (ha : A.length ≤ 100) (hb : B.length ≤ 100) (hp0 : -100 ≤ p) (hp1 : p ≤ 100) (hq0 : -100 ≤ q) (hq1 : q ≤ 100) (hn : n ≤ 12) :
    Calls Try.prog 106 #[.agg #[.int .i64 (n : Int), .int .i64 p, v], .agg #[.int .i64 (n : Int), .int .i64 q, u]] w fun e w' => ∃ o us, e = .returned (.agg #[.int .i64 n, .int .i64 ((gar n).NF (p + q, A.map ((gar n).tw q) ++ B)).1, o]) ∧ NB w' w.heap.size o us ((gar n).NF (p + q, A.map ((gar n).tw q) ++ B)).2 ∧ Below w.heap.size w w' := by
  obtain ⟨vs, hv, hvr⟩ := h
  obtain ⟨us0, hu, hur⟩ := h'
  have hvl : vs.length = A.length := by have := hvr.len; simpa using this
  have hul : us0.length = B.length := by have := hur.len; simpa using this
  have hln := hv.len (P := Try.prog) 22 3 ⟨_, sliceII⟩
  have hln' := hu.len (P := Try.prog) 22 3 ⟨_, sliceII⟩
  rw [hvl] at hln
  rw [hul] at hln'
  have hAx := (((Bx.new w #[.int .i64 (n : Int), .int .i64 p, v] 27).alloc (.cells #[.int .i64 (n : Int), .int .i64 q, u] 27)).alloc (.cells #[.int .i64 0, .int .i64 0, .slice none 0 0] 27)).alloc (.cells #[.int .i64 (n : Int), .int .i64 (p + q), .slice none 0 0] 27)
  have hBx := ((Bx.new (w.alloc (.cells #[.int .i64 (n : Int), .int .i64 p, v] 27)) #[.int .i64 (n : Int), .int .i64 q, u] 27).alloc (.cells #[.int .i64 0, .int .i64 0, .slice none 0 0] 27)).alloc (.cells #[.int .i64 (n : Int), .int .i64 (p + q), .slice none 0 0] 27)
  have hRx := (Bx.new ((w.alloc (.cells #[.int .i64 (n : Int), .int .i64 p, v] 27)).alloc (.cells #[.int .i64 (n : Int), .int .i64 q, u] 27)) #[.int .i64 0, .int .i64 0, .slice none 0 0] 27).alloc (.cells #[.int .i64 (n : Int), .int .i64 (p + q), .slice none 0 0] 27)
  have hGx := Bx.new (((w.alloc (.cells #[.int .i64 (n : Int), .int .i64 p, v] 27)).alloc (.cells #[.int .i64 (n : Int), .int .i64 q, u] 27)).alloc (.cells #[.int .i64 0, .int .i64 0, .slice none 0 0] 27)) #[.int .i64 (n : Int), .int .i64 (p + q), .slice none 0 0] 27
  have hb0 : Below w.heap.size w ((((w.alloc (.cells #[.int .i64 (n : Int), .int .i64 p, v] 27)).alloc (.cells #[.int .i64 (n : Int), .int .i64 q, u] 27)).alloc (.cells #[.int .i64 0, .int .i64 0, .slice none 0 0] 27)).alloc (.cells #[.int .i64 (n : Int), .int .i64 (p + q), .slice none 0 0] 27)) := ((((Below.refl _ _).alloc (Nat.le_refl _) _).alloc (by simp) _).alloc (by simp; omega) _).alloc (by simp; omega) _
  have hsz : ((((w.alloc (.cells #[.int .i64 (n : Int), .int .i64 p, v] 27)).alloc (.cells #[.int .i64 (n : Int), .int .i64 q, u] 27)).alloc (.cells #[.int .i64 0, .int .i64 0, .slice none 0 0] 27)).alloc (.cells #[.int .i64 (n : Int), .int .i64 (p + q), .slice none 0 0] 27)).heap.size = w.heap.size + 1 + 1 + 1 + 1 := by simp
  simp only [World.size_alloc] at hBx hRx hGx
  go_enter Try.func106, Try.ntmps106
  go_wp2_with fail
  generalize ((((w.alloc (.cells #[.int .i64 (n : Int), .int .i64 p, v] 27)).alloc (.cells #[.int .i64 (n : Int), .int .i64 q, u] 27)).alloc (.cells #[.int .i64 0, .int .i64 0, .slice none 0 0] 27)).alloc (.cells #[.int .i64 (n : Int), .int .i64 (p + q), .slice none 0 0] 27)) = w0 at *
  have A2 := hAx.cell 2 rfl
  replace hv := hid hv
  replace hu := hid hu
  replace hvr := hid hvr
  replace hur := hid hur
  replace hAx := hid hAx
  replace hBx := hid hBx
  replace hRx := hid hRx
  replace hGx := hid hGx
  replace hb0 := hid hb0
  replace hA := hid hA
  clear A2
  go_loopw [7, 21] (fun _ i wr => ∃ (j : Nat) (o : Value) (us : List Value), j ≤ A.length ∧ i = .int .i64 j ∧ NB wr (w.heap.size + 1 + 1 + 1 + 1) o us (A.take j) ∧ Bx wr (w.heap.size + 1 + 1 + 1) [.int .i64 (n : Int), .int .i64 (p + q), o] ∧ Below (w.heap.size + 1 + 1 + 1) w0 wr) (fun _ i _ => A.length - (intOf i).toNat)
  case atStart => exact ⟨0, .slice none 0 0, [], by omega, rfl, NB.nil n _ _, hGx.out, Below.refl _ _⟩
  case round =>
    clear hGx
    obtain ⟨j, o, us, hj, rfl, hN, hX, hbw⟩ := hrel
    have hwz : w.heap.size + 1 + 1 + 1 + 1 ≤ wr.heap.size := by have := hbw.size; omega
    have hbo := hid (hb0.out.trans (hbw.mono (by omega)))
    by_cases hlt : j < A.length
    case pos =>
      have hi := hv.out.idx 22 sliceII sizeSI .i64 j (by omega) (by rw [hvl]; omega)
      simp only [Int.toNat_natCast] at hi
      have hc := (hv.out.below hbo.out).cell j _ (vat_of (by omega))
      have hrow := hid (fun (w' : World) (hw : Below wr.heap.size wr w') => by have := ((hvr.out.row j (by rw [length_vals]; exact hlt)).below hbo.out).below hw; rwa [rat_vals hlt] at this)
      have hC := hid (fun (w' : World) (hw : Below wr.heap.size wr w') => clone_run (vat vs j) (pat A j).1 w' (hrow.out w' hw) (by rw [Pm.len]; omega))
      have N2 := hX.drew.cell 2 rfl
      have hbD := hid ((Below.refl wr.heap.size wr).drew)
      have hN' := hid hN
      have hX' := hid hX
      have hbw' := hid hbw
      have hdz : wr.drew.heap.size = wr.heap.size := rfl
      have htl : (A.take j).length ≤ 1048576 := by simp; omega
      clear hN hX hbw
      go_wp2_with fail
      go_region_law ((first | (refine step_call (hC.out _ hbD.out) (fun _ => by kernel_rfl) rfl (.tmp 27) rfl (by simp [Act.eval, Act.put]) ?_; rintro e w3 ⟨x, rfl, hx, hs3⟩; refine ⟨_, rfl, ?_⟩; obtain ⟨xa, xn, xc, rfl⟩ := own_lit hx; have hbS : Below wr.heap.size wr w3 := hbD.out.trans hs3; obtain ⟨v', w4, hrun, hN4, hb4⟩ := hN'.out.app hbS hwz hx htl; have hX3 := hX'.out.below hbS; have hX4 := hX3.belowB hb4 (by omega); have c3 := hX3.cell 2 rfl; have c3a := (hX3.alloc (.cells #[.slice xa xn xc] 32)).cell 2 rfl; have c4 := hX4.cell 2 rfl; have f4 := hX4.frozen 2; obtain ⟨va, vn, vc, rfl⟩ := own_lit hN4.own) | (refine step_app hrun rfl (.tmp 26) (.tmp 29) rfl (by simp [Act.eval]) (by simp [Act.eval]) ?_)))
      all_goals
        have hXS := hid (hX4.set 2 (.slice va vn vc))
        have hNS := hid (hN4.set_block (g := w.heap.size + 1 + 1 + 1) (by omega) 2 (.slice va vn vc))
        have hbS' := hid (((hbw'.out.trans (hbS.mono (by omega))).trans (hb4.mono (by omega))).setCell (p := ⟨w.heap.size + 1 + 1 + 1, 2, none⟩) (Nat.le_refl _) (.slice va vn vc))
        clear hN' hX' hbw' hrow hC hbD hX4 hX3 hN4 hb4 hbS hx hs3 c3 c3a htl
        go_wp2_with fail
        go_roundw
        case rel => exact ⟨j + 1, _, _, by omega, by go_num, by rw [take_pat hlt]; exact hNS.out, hXS.out, hbS'.out⟩
        case measure => simp [intOf]; omega
    case neg =>
    obtain rfl : j = A.length := by omega
    rw [List.take_of_length_le (Nat.le_refl _)] at hN
    have hBw := hBx.out.keep (hbw.block _ (by omega))
    have B1 := hBw.cell 1 rfl
    have B2 := hBw.cell 2 rfl
    replace hN := hid hN
    replace hX := hid hX
    replace hbw := hid hbw
    clear hBw
    by_cases hpar : q % 2 = 0
    case' pos =>
      have hpr := tm_even hpar
      obtain ⟨wF, usF, hNF, hXF, hbF, hwe⟩ : ∃ wF usF, Hid (NB wF (w.heap.size + 1 + 1 + 1 + 1) o usF (A.map ((gar n).tw q))) ∧ Hid (Bx wF (w.heap.size + 1 + 1 + 1) [.int .i64 (n : Int), .int .i64 (p + q), o]) ∧ Hid (Below (w.heap.size + 1 + 1 + 1) w0 wF) ∧ wF = wr := ⟨wr, us, by rw [tw_even hpar]; exact hN, hX, hbw, rfl⟩
      subst hwe
      go_wp2_with fail
    case' neg =>
      have hpr := tm_odd hpar
      go_wp2_with fail
      refine (flipAll_impl (w.heap.size + 1 + 1 + 1) (p + q) o us A wr (w.heap.size + 1 + 1 + 1 + 1) hwz (by omega) hX.out hN.out hn).mono ?_
      rintro e wF ⟨usF, rfl, hN5, hX5, hb5, -⟩
      rw [← tw_odd hpar] at hN5
      have hNF := hid hN5
      have hXF := hid hX5
      have hbF := hid (hbw.out.trans (hb5.mono (by omega)))
      have B2 := (hBx.out.keep (hbF.out.block _ (by omega))).cell 2 rfl
      clear hN5 hX5 hb5
      go_wp2_with fail
    all_goals
      clear hpr hN hX hbw
      go_loopw [9, 41] (fun _ i wr => ∃ (j : Nat) (o : Value) (us : List Value), j ≤ B.length ∧ i = .int .i64 j ∧ NB wr (w.heap.size + 1 + 1 + 1 + 1) o us ((gar n).NF (p + q, A.map ((gar n).tw q) ++ B.take j)).2 ∧ Bx wr (w.heap.size + 1 + 1 + 1) [.int .i64 (n : Int), .int .i64 ((gar n).NF (p + q, A.map ((gar n).tw q) ++ B.take j)).1, o] ∧ Below (w.heap.size + 1 + 1 + 1) w0 wr) (fun _ i _ => B.length - (intOf i).toNat)
      case atStart => exact ⟨0, o, usF, by omega, rfl, by rw [List.take_zero, List.append_nil, nrm_tw hA.out]; exact hNF.out, by rw [List.take_zero, List.append_nil, nrm_tw hA.out]; exact hXF.out, hbF.out⟩
      case round =>
        clear hNF hXF hbF hbo
        obtain ⟨j, o, us, hj, rfl, hN, hX, hbw⟩ := hrel
        have hwz : w.heap.size + 1 + 1 + 1 + 1 ≤ wr.heap.size := by have := hbw.size; omega
        have hbo := hid (hb0.out.trans (hbw.mono (by omega)))
        by_cases hlt : j < B.length
        case pos =>
          have hi := hu.out.idx 22 sliceII sizeSI .i64 j (by omega) (by rw [hul]; omega)
          simp only [Int.toNat_natCast] at hi
          have hc := (hu.out.below hbo.out).cell j _ (vat_of (by omega))
          have hrow := hid (by have := ((hur.out.row j (by rw [length_vals]; exact hlt)).below hbo.out); rwa [rat_vals hlt] at this : Reads wr (vat us0 j) (ints (pat B j).1))
          have hnl := (gar n).NF_len (p + q) (A.map ((gar n).tw q) ++ B.take j)
          rw [List.length_append, List.length_map, List.length_take] at hnl
          have e1 := hid (by rw [take_pat hlt, ← List.append_assoc, (gar n).NF_right] : (gar n).NF (p + q, A.map ((gar n).tw q) ++ B.take (j + 1)) = (gar n).NF (((gar n).NF (p + q, A.map ((gar n).tw q) ++ B.take j)).1, ((gar n).NF (p + q, A.map ((gar n).tw q) ++ B.take j)).2 ++ [pat B j]))
          generalize (gar n).NF (p + q, A.map ((gar n).tw q) ++ B.take j) = x at *
          replace hN := hid hN
          replace hX := hid hX
          replace hbw := hid hbw
          go_wp2_with fail
          refine (times_impl (w.heap.size + 1 + 1 + 1) x.1 o (vat us0 j) us x.2 (pat B j) wr (w.heap.size + 1 + 1 + 1 + 1) hwz (by omega) hX.out hN.out hrow.out (by omega) (by omega) (by omega) hn).mono ?_
          rintro e w5 ⟨o', us', rfl, hN5, hX5, hb5⟩
          replace hN5 := hid hN5
          replace hX5 := hid hX5
          replace hb5 := hid hb5
          go_wp2_with fail
          go_roundw
          case rel => exact ⟨j + 1, o', us', by omega, by go_num, by rw [e1.out]; exact hN5.out, by rw [e1.out]; exact hX5.out, hbw.out.trans hb5.out⟩
          case measure => simp [intOf]; omega
        case neg =>
          obtain rfl : j = B.length := by omega
          rw [List.take_of_length_le (Nat.le_refl _)] at hN hX
          generalize hSx : (gar n).NF (p + q, A.map ((gar n).tw q) ++ B) = x at *
          replace hSx := hid hSx
          obtain ⟨oa, on, oc, rfl⟩ := own_lit hN.own
          have hR := hRx.out.keep (hbw.block _ (by omega))
          have c0 := hX.cell 0 rfl
          have c1 := hX.cell 1 rfl
          have c2 := hX.cell 2 rfl
          have d0 := hR.cell 0 rfl
          have d1 := hR.cell 1 rfl
          have d2 := hR.cell 2 rfl
          have f0 := hR.frozen 0
          have f1 := hR.frozen 1
          have f2 := hR.frozen 2
          have hE := hid (((hN.set_block (g := w.heap.size + 1 + 1) (by omega) 0 (.int .i64 (n : Int))).set_block (g := w.heap.size + 1 + 1) (by omega) 1 (.int .i64 x.1)).set_block (g := w.heap.size + 1 + 1) (by omega) 2 (.slice oa on oc))
          have hR5 := ((hR.set 0 (.int .i64 (n : Int))).set 1 (.int .i64 x.1)).set 2 (.slice oa on oc)
          have g0 := hR5.cell 0 rfl
          have g1 := hR5.cell 1 rfl
          have g2 := hR5.cell 2 rfl
          clear hN hX hR hR5 hbw
          go_wp2_with fail
          refine bodyPost_ret (v := .agg #[.int .i64 (n : Int), .int .i64 x.1, .slice oa on oc]) (by simp [g0, g1, g2, results, Try.results106, go_sem]) rfl ⟨_, us, by rw [hSx.out], by rw [hSx.out]; exact hE.out.lower (by omega), ((hbo.out.setCell (by simp; omega) _).setCell (by simp; omega) _).setCell (by simp; omega) _⟩


end Go.Proofs.Ytmeccemnmkobbaa

namespace Go.Proofs.Ytmeccemnmkobbaa
open Go.RowKit
open Pm

def jnS (n p : Int) (la : List (List Int)) (q : Int) (lb : List (List Int)) : Gar.St (Pm n.toNat) := (gar n.toNat).NF (p + q, (toL n.toNat la).map ((gar n.toNat).tw q) ++ toL n.toNat lb)
def okJ (n p : Int) (la : List (List Int)) (q : Int) (lb : List (List Int)) : Bool := inB (jnS n p la q lb).1 (-100) 100 && decide ((jnS n p la q lb).2.length ≤ 100)
def codeJN (n p : Int) (la : List (List Int)) (m q : Int) (lb : List (List Int)) : Int := if normB n p la && normB m q lb then (if n = m then (if okJ n p la q lb then 0 else 5) else 6) else 1
def nJN (n p : Int) (la : List (List Int)) (m q : Int) (lb : List (List Int)) : Int := if codeJN n p la m q lb = 0 then n else 0
def pJN (n p : Int) (la : List (List Int)) (m q : Int) (lb : List (List Int)) : Int := if codeJN n p la m q lb = 0 then (jnS n p la q lb).1 else 0
def lJN (n p : Int) (la : List (List Int)) (m q : Int) (lb : List (List Int)) : List (List Int) := if codeJN n p la m q lb = 0 then vals (jnS n p la q lb).2 else []
theorem jnS_eq {a : Nat} (p q : Int) (A B : List (Pm a)) : jnS (a : Int) p (vals A) q (vals B) = (gar a).NF (p + q, A.map ((gar a).tw q) ++ B) := by
  show (gar a).NF (p + q, (toL a (vals A)).map ((gar a).tw q) ++ toL a (vals B)) = _
  rw [toL_vals, toL_vals]
theorem lJN_tot (n p : Int) (la : List (List Int)) (m q : Int) (lb : List (List Int)) : tot (lJN n p la m q lb) ≤ 1200 := by
  unfold lJN
  split
  · rename_i h
    unfold codeJN at h
    cases e1 : (normB n p la && normB m q lb) with
    | false => rw [e1] at h; simp at h
    | true =>
      rw [e1] at h
      have h1 := normB_of (by simpa using e1 : normB n p la = true ∧ normB m q lb = true).1
      by_cases e2 : n = m
      · rw [if_pos rfl, if_pos e2] at h
        cases e3 : okJ n p la q lb with
        | false => rw [e3] at h; simp at h
        | true =>
          have h2 : (jnS n p la q lb).2.length ≤ 100 := by unfold okJ at e3; simp at e3; exact e3.2
          rw [tot_vals]
          have := Nat.mul_le_mul (show n.toNat ≤ 12 by omega) h2
          omega
      · rw [if_pos rfl, if_neg e2] at h; simp at h
  · simp [tot]


set_option maxRecDepth 100000 in
set_option maxHeartbeats 8000000 in
theorem vjn_impl (n p : Int) (v : Value) (la : List (List Int)) (m q : Int) (u : Value) (lb : List (List Int)) (w : World) (h : ReadsII w v la) (h' : ReadsII w u lb) :
    Calls Try.prog 50 #[.agg #[.int .i64 n, .int .i64 p, v], .agg #[.int .i64 m, .int .i64 q, u]] w fun e w' => ∃ x, e = .returned (.tuple #[.agg #[.int .i64 (nJN n p la m q lb), .int .i64 (pJN n p la m q lb), x], .int .i64 (codeJN n p la m q lb)]) ∧ OwnII w' w.heap.size w'.heap.size 32 2 x (lJN n p la m q lb) ∧ Below w.heap.size w w' := by
  have hA0 := ((Bx.new w #[.int .i64 n, .int .i64 p, v] 27).alloc (.cells #[.int .i64 m, .int .i64 q, u] 27)).alloc (.cells #[.int .i64 0, .int .i64 0, .slice none 0 0] 27)
  have hB0 := (Bx.new (w.alloc (.cells #[.int .i64 n, .int .i64 p, v] 27)) #[.int .i64 m, .int .i64 q, u] 27).alloc (.cells #[.int .i64 0, .int .i64 0, .slice none 0 0] 27)
  have hR0 := Bx.new ((w.alloc (.cells #[.int .i64 n, .int .i64 p, v] 27)).alloc (.cells #[.int .i64 m, .int .i64 q, u] 27)) #[.int .i64 0, .int .i64 0, .slice none 0 0] 27
  have hb0 : Below w.heap.size w (((w.alloc (.cells #[.int .i64 n, .int .i64 p, v] 27)).alloc (.cells #[.int .i64 m, .int .i64 q, u] 27)).alloc (.cells #[.int .i64 0, .int .i64 0, .slice none 0 0] 27)) := (((Below.refl _ _).alloc (Nat.le_refl _) _).alloc (by simp) _).alloc (by simp; omega) _
  have hsz : (((w.alloc (.cells #[.int .i64 n, .int .i64 p, v] 27)).alloc (.cells #[.int .i64 m, .int .i64 q, u] 27)).alloc (.cells #[.int .i64 0, .int .i64 0, .slice none 0 0] 27)).heap.size = w.heap.size + 1 + 1 + 1 := by simp
  simp only [World.size_alloc] at hB0 hR0
  obtain ⟨vs, hv, hvr⟩ := h.below hb0
  obtain ⟨us, hu, hur⟩ := h'.below hb0
  go_enter Try.func50, Try.ntmps50
  go_wp2_with fail
  generalize (((w.alloc (.cells #[.int .i64 n, .int .i64 p, v] 27)).alloc (.cells #[.int .i64 m, .int .i64 q, u] 27)).alloc (.cells #[.int .i64 0, .int .i64 0, .slice none 0 0] 27)) = w0 at *
  have A0 := hA0.cell 0 rfl
  have A1 := hA0.cell 1 rfl
  have A2 := hA0.cell 2 rfl
  clear h h'
  go_wp2_with fail
  refine (vn_impl n p v la w0 ⟨vs, hv, hvr⟩).mono ?_
  clear A0 A1 A2
  rintro e w1 ⟨rfl, hs1⟩
  have hz1 := hs1.size
  have hA1 := hA0.below hs1
  have hB1 := hB0.below hs1
  have hR1 := hR0.below hs1
  have hb1 := hb0.trans (hs1.mono hb0.size)
  replace hv := hv.below hs1
  replace hvr := hvr.below hs1
  replace hu := hu.below hs1
  replace hur := hur.below hs1
  clear hs1 hA0 hB0 hR0 hb0
  cases e1 : normB n p la with
  | false =>
    have hcode : codeJN n p la m q lb = 1 := by unfold codeJN; rw [e1]; rfl
    have g5 := ((hR1.set 0 (.int .i64 0)).set 1 (.int .i64 0)).set 2 (.slice none 0 0)
    have R0 := hR1.cell 0 rfl
    have R1 := hR1.cell 1 rfl
    have R2 := hR1.cell 2 rfl
    have F0 := hR1.frozen 0
    have F1 := hR1.frozen 1
    have F2 := hR1.frozen 2
    have g0 := g5.cell 0 rfl
    have g1 := g5.cell 1 rfl
    have g2 := g5.cell 2 rfl
    have hbt := hid hb1
    go_wp2_with fail
    refine bodyPost_ret (v := .tuple #[.agg #[.int .i64 0, .int .i64 0, .slice none 0 0], .int .i64 1]) (by simp [g0, g1, g2, results, Try.results50, go_sem]) rfl ⟨_, by unfold nJN pJN; rw [hcode]; rfl, by unfold lJN; rw [hcode]; exact OwnII.empty _ _ _, ((hbt.out.setCell (by simp; omega) _).setCell (by simp; omega) _).setCell (by simp; omega) _⟩
  | true =>
  replace e1 := hid e1
  have B0 := hB1.cell 0 rfl
  have B1 := hB1.cell 1 rfl
  have B2 := hB1.cell 2 rfl
  go_wp2_with fail
  refine (vn_impl m q u lb w1 ⟨us, hu, hur⟩).mono ?_
  clear B0 B1 B2
  rintro e w2 ⟨rfl, hs2⟩
  have hz2 := hs2.size
  have hA2 := hA1.below hs2
  have hB2 := hB1.below hs2
  have hR2 := hR1.below hs2
  have hb2 := hb1.trans (hs2.mono hb1.size)
  replace hv := hv.below hs2
  replace hvr := hvr.below hs2
  replace hu := hu.below hs2
  replace hur := hur.below hs2
  clear hs2 hA1 hB1 hR1 hb1
  cases e2 : normB m q lb with
  | false =>
    have hcode : codeJN n p la m q lb = 1 := by unfold codeJN; rw [e1.out, e2]; rfl
    have g5 := ((hR2.set 0 (.int .i64 0)).set 1 (.int .i64 0)).set 2 (.slice none 0 0)
    have R0 := hR2.cell 0 rfl
    have R1 := hR2.cell 1 rfl
    have R2 := hR2.cell 2 rfl
    have F0 := hR2.frozen 0
    have F1 := hR2.frozen 1
    have F2 := hR2.frozen 2
    have g0 := g5.cell 0 rfl
    have g1 := g5.cell 1 rfl
    have g2 := g5.cell 2 rfl
    have hbt := hid hb2
    go_wp2_with fail
    refine bodyPost_ret (v := .tuple #[.agg #[.int .i64 0, .int .i64 0, .slice none 0 0], .int .i64 1]) (by simp [g0, g1, g2, results, Try.results50, go_sem]) rfl ⟨_, by unfold nJN pJN; rw [hcode]; rfl, by unfold lJN; rw [hcode]; exact OwnII.empty _ _ _, ((hbt.out.setCell (by simp; omega) _).setCell (by simp; omega) _).setCell (by simp; omega) _⟩
  | true =>
  replace e2 := hid e2
  have A0 := hA2.cell 0 rfl
  have B0 := hB2.cell 0 rfl
  cases e3 : (n == m) with
  | false =>
    have e3' : (n != m) = true := by simp [bne, e3]
    have e3n := hid (show ¬ n = m by simpa using e3)
    have hcode : codeJN n p la m q lb = 6 := by unfold codeJN; rw [e1.out, e2.out]; simp [e3n.out]
    have g5 := ((hR2.set 0 (.int .i64 0)).set 1 (.int .i64 0)).set 2 (.slice none 0 0)
    have R0 := hR2.cell 0 rfl
    have R1 := hR2.cell 1 rfl
    have R2 := hR2.cell 2 rfl
    have F0 := hR2.frozen 0
    have F1 := hR2.frozen 1
    have F2 := hR2.frozen 2
    have g0 := g5.cell 0 rfl
    have g1 := g5.cell 1 rfl
    have g2 := g5.cell 2 rfl
    have hbt := hid hb2
    go_wp2_with fail
    refine bodyPost_ret (v := .tuple #[.agg #[.int .i64 0, .int .i64 0, .slice none 0 0], .int .i64 6]) (by simp [g0, g1, g2, results, Try.results50, go_sem]) rfl ⟨_, by unfold nJN pJN; rw [hcode]; rfl, by unfold lJN; rw [hcode]; exact OwnII.empty _ _ _, ((hbt.out.setCell (by simp; omega) _).setCell (by simp; omega) _).setCell (by simp; omega) _⟩
  | true =>
  have e3' : (n != m) = false := by simp [bne, e3]
  obtain rfl : n = m := by simpa using e3
  have q1 := normB_of e1.out
  have q2 := normB_of e2.out
  obtain ⟨q10, q11, q12, q13, q14, q15, -⟩ := q1
  obtain ⟨-, -, q22, q23, q24, q25, -⟩ := q2
  obtain ⟨a, rfl⟩ := Int.eq_ofNat_of_zero_le q10
  obtain ⟨A, rfl⟩ : ∃ A : List (Pm a), la = vals A := ⟨_, (normB_vals e1.out).symm⟩
  obtain ⟨B, rfl⟩ : ∃ B : List (Pm a), lb = vals B := ⟨_, (normB_vals e2.out).symm⟩
  rw [length_vals] at q14 q24
  have hnA := hid (normB_nrm e1.out)
  have hnB := hid (normB_nrm e2.out)
  have hS := hid (jnS_eq p q A B)
  have A1 := hA2.cell 1 rfl
  have A2 := hA2.cell 2 rfl
  have B1 := hB2.cell 1 rfl
  have B2 := hB2.cell 2 rfl
  replace hR2 := hid hR2
  replace hb2 := hid hb2
  go_wp2_with fail
  refine (join_impl p q v u A B w2 ⟨vs, hv, hvr⟩ ⟨us, hu, hur⟩ hnA.out q14 q24 (by omega) (by omega) (by omega) (by omega) (by omega)).mono ?_
  rintro e w3 ⟨o, us3, rfl, hN, hs3⟩
  rw [← hS.out] at hN ⊢
  have hz3 := hs3.size
  have hbl := (gar a).NF_len (p + q) (A.map ((gar a).tw q) ++ B)
  rw [← hS.out, List.length_append, List.length_map] at hbl
  obtain ⟨oa, on, oc, rfl⟩ := own_lit hN.own
  have hln := hN.own.reads.len (P := Try.prog) 22 3 ⟨_, sliceII⟩
  rw [hN.len] at hln
  have hR3 := hid ((hR2.out.below hs3).alloc (.cells #[.int .i64 a, .int .i64 (jnS a p (vals A) q (vals B)).1, .slice oa on oc] 27))
  have hX := Bx.new w3 #[.int .i64 a, .int .i64 (jnS a p (vals A) q (vals B)).1, .slice oa on oc] 27
  have hb3 := hid ((hb2.out.trans (hs3.mono hb2.out.size)).alloc (by omega) (.cells #[.int .i64 a, .int .i64 (jnS a p (vals A) q (vals B)).1, .slice oa on oc] 27))
  have hO := hid ((hN.ownII.alloc (.cells #[.int .i64 a, .int .i64 (jnS a p (vals A) q (vals B)).1, .slice oa on oc] 27)).widen (lo' := w.heap.size + 1 + 1 + 1) (by omega) (Nat.le_succ _))
  have X0 := hX.cell 0 rfl
  have X1 := hX.cell 1 rfl
  have X2 := hX.cell 2 rfl
  clear hN hs3 A0 A1 A2 B0 B1 B2 hA2 hB2 hv hvr hu hur
  go_wp2_with fail
  refine (in_impl _ _ _ _).mono ?_
  rintro e w4 ⟨rfl, rfl⟩
  cases e4 : inB (jnS a p (vals A) q (vals B)).1 (-100) 100 with
  | false =>
    have hcode : codeJN a p (vals A) a q (vals B) = 5 := by unfold codeJN okJ; rw [e1.out, e2.out, e4]; simp
    have g5 := ((hR3.out.set 0 (.int .i64 0)).set 1 (.int .i64 0)).set 2 (.slice none 0 0)
    have R0 := hR3.out.cell 0 rfl
    have R1 := hR3.out.cell 1 rfl
    have R2 := hR3.out.cell 2 rfl
    have F0 := hR3.out.frozen 0
    have F1 := hR3.out.frozen 1
    have F2 := hR3.out.frozen 2
    have g0 := g5.cell 0 rfl
    have g1 := g5.cell 1 rfl
    have g2 := g5.cell 2 rfl
    have hbt := hid hb3.out
    go_wp2_with fail
    refine bodyPost_ret (v := .tuple #[.agg #[.int .i64 0, .int .i64 0, .slice none 0 0], .int .i64 5]) (by simp [g0, g1, g2, results, Try.results50, go_sem]) rfl ⟨_, by unfold nJN pJN; rw [hcode]; rfl, by unfold lJN; rw [hcode]; exact OwnII.empty _ _ _, ((hbt.out.setCell (by simp; omega) _).setCell (by simp; omega) _).setCell (by simp; omega) _⟩
  | true =>
  by_cases e5 : (jnS a p (vals A) q (vals B)).2.length ≤ 100
  · have e5' : ¬ (100 : Int) < ((jnS a p (vals A) q (vals B)).2.length : Int) := by omega
    have hcode : codeJN a p (vals A) a q (vals B) = 0 := by unfold codeJN okJ; rw [e1.out, e2.out, e4]; simp [e5]
    have R0 := hR3.out.cell 0 rfl
    have R1 := hR3.out.cell 1 rfl
    have R2 := hR3.out.cell 2 rfl
    have F0 := hR3.out.frozen 0
    have F1 := hR3.out.frozen 1
    have F2 := hR3.out.frozen 2
    have g5 := ((hR3.out.set 0 (.int .i64 a)).set 1 (.int .i64 (jnS a p (vals A) q (vals B)).1)).set 2 (.slice oa on oc)
    have g0 := g5.cell 0 rfl
    have g1 := g5.cell 1 rfl
    have g2 := g5.cell 2 rfl
    have hE := hid (((hO.out.setAt (g := w.heap.size + 1 + 1) (by omega) 0 (.int .i64 a)).setAt (g := w.heap.size + 1 + 1) (by omega) 1 (.int .i64 (jnS a p (vals A) q (vals B)).1)).setAt (g := w.heap.size + 1 + 1) (by omega) 2 (.slice oa on oc))
    clear e5 g5
    go_wp2_with fail
    refine bodyPost_ret (v := .tuple #[.agg #[.int .i64 a, .int .i64 (jnS a p (vals A) q (vals B)).1, .slice oa on oc], .int .i64 0]) (by simp [g0, g1, g2, results, Try.results50, go_sem]) rfl ⟨_, by unfold nJN pJN; rw [hcode]; rfl, by unfold lJN; rw [hcode]; exact hE.out.lowered (by omega) (by simp [World.setCell]), ((hb3.out.setCell (by simp; omega) _).setCell (by simp; omega) _).setCell (by simp; omega) _⟩
  · have e5' : (100 : Int) < ((jnS a p (vals A) q (vals B)).2.length : Int) := by omega
    have hcode : codeJN a p (vals A) a q (vals B) = 5 := by unfold codeJN okJ; rw [e1.out, e2.out, e4]; simp [e5]
    have g5 := ((hR3.out.set 0 (.int .i64 0)).set 1 (.int .i64 0)).set 2 (.slice none 0 0)
    have R0 := hR3.out.cell 0 rfl
    have R1 := hR3.out.cell 1 rfl
    have R2 := hR3.out.cell 2 rfl
    have F0 := hR3.out.frozen 0
    have F1 := hR3.out.frozen 1
    have F2 := hR3.out.frozen 2
    have g0 := g5.cell 0 rfl
    have g1 := g5.cell 1 rfl
    have g2 := g5.cell 2 rfl
    have hbt := hid hb3.out
    go_wp2_with fail
    refine bodyPost_ret (v := .tuple #[.agg #[.int .i64 0, .int .i64 0, .slice none 0 0], .int .i64 5]) (by simp [g0, g1, g2, results, Try.results50, go_sem]) rfl ⟨_, by unfold nJN pJN; rw [hcode]; rfl, by unfold lJN; rw [hcode]; exact OwnII.empty _ _ _, ((hbt.out.setCell (by simp; omega) _).setCell (by simp; omega) _).setCell (by simp; omega) _⟩

end Go.Proofs.Ytmeccemnmkobbaa

namespace Go.Proofs.Ytmeccemnmkobbaa
open Go.RowKit
open Pm

theorem Reads.blkLt {w : World} {v : Value} {xs : List Value} (h : Reads w v xs) (hne : xs ≠ []) {k : Nat} (hk : blk v = some k) : k < w.heap.size := by
  obtain ⟨a, c, rfl, -⟩ := h.form
  cases a with
  | none => simp [blk] at hk
  | some a =>
    cases xs with
    | nil => exact absurd rfl hne
    | cons x xs =>
      have h1 := World.block_lt_of_cell? w _ (h.cell 0 x rfl)
      have h2 : a.block = k := by simpa [blk] using hk
      rw [← h2]; exact h1
theorem rowsB_of {n : Nat} {w : World} {vs : List Value} {L : List (Pm n)} (h : RowsR w vs (vals L)) (h0 : L = [] ∨ 0 < n) : RowsB w 0 vs (vals L) := by
  refine ⟨h, fun i hi k hk => ⟨by omega, ?_⟩⟩
  rcases h0 with rfl | h0
  · simp [vals] at hi
  · have h1 := h.row i hi
    refine h1.blkLt (fun e => ?_) hk
    rw [length_vals] at hi
    rw [rat_vals hi] at e
    have e2 := congrArg List.length e
    rw [length_ints, Pm.len] at e2
    simp at e2; omega
theorem two_of {n : Nat} {p : Int} {L : List (Pm n)} (h : normB n p (vals L) = true) : L = [] ∨ 2 ≤ n := by
  cases L with
  | nil => exact .inl rfl
  | cons x L =>
    refine .inr ?_
    rcases Nat.lt_or_ge n 2 with h2 | h2
    · rw [normB_fac (i := 0) (by simp [vals]) (facOk_small (by omega) _ _)] at h; cases h
    · exact h2
theorem vat_left {us vs : List Value} {i : Nat} (h : i < us.length) : vat (us ++ vs) i = vat us i := by unfold vat; rw [List.getElem?_append_left h]
theorem vat_right {us vs : List Value} {i : Nat} (h : us.length ≤ i) : vat (us ++ vs) i = vat vs (i - us.length) := by unfold vat; rw [List.getElem?_append_right h]
theorem rat_left {us vs : List (List Int)} {i : Nat} (h : i < us.length) : rat (us ++ vs) i = rat us i := by unfold rat; rw [List.getElem?_append_left h]
theorem rat_right {us vs : List (List Int)} {i : Nat} (h : us.length ≤ i) : rat (us ++ vs) i = rat vs (i - us.length) := by unfold rat; rw [List.getElem?_append_right h]
theorem RowsB.both {w : World} {lo : Nat} {us vs : List Value} {ls ms : List (List Int)} (h : RowsB w lo us ls) (k : RowsB w lo vs ms) : RowsB w lo (us ++ vs) (ls ++ ms) := by
  have hl := h.rows.len
  have kl := k.rows.len
  refine ⟨⟨by simp [hl, kl], fun i hi => ?_⟩, fun i hi b hb => ?_⟩
  · rw [List.length_append] at hi
    by_cases e : i < ls.length
    · rw [vat_left (by omega), rat_left e]; exact h.rows.row i e
    · rw [vat_right (by omega), rat_right (by omega), hl]; exact k.rows.row _ (by omega)
  · rw [List.length_append] at hi
    by_cases e : i < ls.length
    · rw [vat_left (by omega)] at hb; exact h.blks i e b hb
    · rw [vat_right (by omega), hl] at hb; exact k.blks _ (by omega) b hb
theorem RowsB.keepG {w w' : World} {lo : Nat} {o : Value} {us : List Value} {ls : List (List Int)} (h : RowsB w lo us ls) (hg : w.grownBy w' (blk o)) (ha : ∀ i, i < ls.length → Apart (vat us i) o) : RowsB w' lo us ls :=
  ⟨⟨h.rows.len, fun i hi => (h.rows.row i hi).grown hg fun k hk e => ha i hi k hk e.symm⟩, fun i hi k hk => by have := h.blks i hi k hk; have := hg.size; omega⟩
theorem RowsB.one {w : World} {lo : Nat} {us : List Value} {ls : List (List Int)} (h : RowsB w lo us ls) : ∀ y ∈ us, y.oneCell' = true := by
  intro y hy
  obtain ⟨i, hi, rfl⟩ := List.mem_iff_getElem.1 hy
  have := h.rows.row i (by have := h.rows.len; omega)
  obtain ⟨a, c, e, -⟩ := this.form
  have e2 : us[i] = vat us i := by simp [vat, hi]
  rw [e2, e]; rfl
theorem NB.rowsR {n : Nat} {w : World} {B : Nat} {o : Value} {us : List Value} {L : List (Pm n)} (h : NB w B o us L) : RowsR w us (vals L) :=
  ⟨by simpa using h.len, fun i hi => by rw [length_vals] at hi; rw [rat_vals hi]; exact (h.row i hi).reads⟩
theorem RowsO.both {w : World} {lo B : Nat} {o u : Value} {us us0 : List Value} {ls ms : List (List Int)} (h : RowsO w lo B o us ls) (hu : Reads w u us0) (hr : RowsB w lo us0 ms) (ha : ∀ i, i < ms.length → Apart (vat us0 i) o) (hB : B ≤ w.heap.size) (hl : us.length + us0.length ≤ 1048576) :
    ∃ v' w', (Builtin.append_ #[22, 22] 22 #[o, u]).run Try.prog w = .ok v' w' ∧ Own w' B 32 v' (us ++ us0) ∧ RowsB w' lo (us ++ us0) (ls ++ ms) ∧ Below B w w' := by
  obtain ⟨v', w', hrun, ho, hg⟩ := app_run (T := 22) (ty := 22) (xs := us) (ys := us0) sliceII infoSI rfl h.own hu hr.one hB (by omega) (by decide)
  exact ⟨v', w', hrun, ho, (h.rows.keepG hg h.ap).both (hr.keepG hg ha), (Below.refl B w).grown hg hB fun k hk => (h.own.blk_lt hk).1⟩


set_option maxRecDepth 100000 in
set_option maxHeartbeats 8000000 in
theorem vjn_spec (n p : Int) (v : Value) (la : List (List Int)) (m q : Int) (u : Value) (lb : List (List Int)) (w : World) (h : ReadsII w v la) (h' : ReadsII w u lb) :
    Calls Try.prog 49 #[.agg #[.int .i64 n, .int .i64 p, v], .agg #[.int .i64 m, .int .i64 q, u]] w fun e w' => ∃ x, e = .returned (.tuple #[.agg #[.int .i64 (nJN n p la m q lb), .int .i64 (pJN n p la m q lb), x], .int .i64 (codeJN n p la m q lb)]) ∧ OwnII w' w.heap.size w'.heap.size 32 2 x (lJN n p la m q lb) ∧ Below w.heap.size w w' := by
  have hA0 := ((Bx.new w #[.int .i64 n, .int .i64 p, v] 27).alloc (.cells #[.int .i64 m, .int .i64 q, u] 27)).alloc (.cells #[.int .i64 0, .int .i64 0, .slice none 0 0] 27)
  have hB0 := (Bx.new (w.alloc (.cells #[.int .i64 n, .int .i64 p, v] 27)) #[.int .i64 m, .int .i64 q, u] 27).alloc (.cells #[.int .i64 0, .int .i64 0, .slice none 0 0] 27)
  have hR0 := Bx.new ((w.alloc (.cells #[.int .i64 n, .int .i64 p, v] 27)).alloc (.cells #[.int .i64 m, .int .i64 q, u] 27)) #[.int .i64 0, .int .i64 0, .slice none 0 0] 27
  have hb0 : Below w.heap.size w (((w.alloc (.cells #[.int .i64 n, .int .i64 p, v] 27)).alloc (.cells #[.int .i64 m, .int .i64 q, u] 27)).alloc (.cells #[.int .i64 0, .int .i64 0, .slice none 0 0] 27)) := (((Below.refl _ _).alloc (Nat.le_refl _) _).alloc (by simp) _).alloc (by simp; omega) _
  have hsz : (((w.alloc (.cells #[.int .i64 n, .int .i64 p, v] 27)).alloc (.cells #[.int .i64 m, .int .i64 q, u] 27)).alloc (.cells #[.int .i64 0, .int .i64 0, .slice none 0 0] 27)).heap.size = w.heap.size + 1 + 1 + 1 := by simp
  simp only [World.size_alloc] at hB0 hR0
  obtain ⟨vs, hv, hvr⟩ := h.below hb0
  obtain ⟨us, hu, hur⟩ := h'.below hb0
  go_enter Try.func49, Try.ntmps49
  go_wp2_with fail
  generalize (((w.alloc (.cells #[.int .i64 n, .int .i64 p, v] 27)).alloc (.cells #[.int .i64 m, .int .i64 q, u] 27)).alloc (.cells #[.int .i64 0, .int .i64 0, .slice none 0 0] 27)) = w0 at *
  have A0 := hA0.cell 0 rfl
  have A1 := hA0.cell 1 rfl
  have A2 := hA0.cell 2 rfl
  clear h h'
  go_wp2_with fail
  refine (l04ok_spec w.heap.size n p v vs la w0 hA0 hv hvr).mono ?_
  clear A0 A1 A2
  rintro e w1 ⟨rfl, hs1⟩
  have hz1 := hs1.size
  have hA1 := hA0.below hs1
  have hB1 := hB0.below hs1
  have hR1 := hR0.below hs1
  have hb1 := hb0.trans (hs1.mono hb0.size)
  replace hv := hv.below hs1
  replace hvr := hvr.below hs1
  replace hu := hu.below hs1
  replace hur := hur.below hs1
  clear hs1 hA0 hB0 hR0 hb0
  cases e1 : normB n p la with
  | false =>
    have hcode : codeJN n p la m q lb = 1 := by unfold codeJN; rw [e1]; rfl
    have g5 := ((hR1.set 0 (.int .i64 0)).set 1 (.int .i64 0)).set 2 (.slice none 0 0)
    have R0 := hR1.cell 0 rfl
    have R1 := hR1.cell 1 rfl
    have R2 := hR1.cell 2 rfl
    have F0 := hR1.frozen 0
    have F1 := hR1.frozen 1
    have F2 := hR1.frozen 2
    have g0 := g5.cell 0 rfl
    have g1 := g5.cell 1 rfl
    have g2 := g5.cell 2 rfl
    have hbt := hid hb1
    go_wp2_with fail
    refine bodyPost_ret (v := .tuple #[.agg #[.int .i64 0, .int .i64 0, .slice none 0 0], .int .i64 1]) (by simp [g0, g1, g2, results, Try.results49, go_sem]) rfl ⟨_, by unfold nJN pJN; rw [hcode]; rfl, by unfold lJN; rw [hcode]; exact OwnII.empty _ _ _, ((hbt.out.setCell (by simp; omega) _).setCell (by simp; omega) _).setCell (by simp; omega) _⟩
  | true =>
  replace e1 := hid e1
  have B0 := hB1.cell 0 rfl
  have B1 := hB1.cell 1 rfl
  have B2 := hB1.cell 2 rfl
  go_wp2_with fail
  refine (l04ok_spec (w.heap.size + 1) m q u us lb w1 hB1 hu hur).mono ?_
  clear B0 B1 B2
  rintro e w2 ⟨rfl, hs2⟩
  have hz2 := hs2.size
  have hA2 := hA1.below hs2
  have hB2 := hB1.below hs2
  have hR2 := hR1.below hs2
  have hb2 := hb1.trans (hs2.mono hb1.size)
  replace hv := hv.below hs2
  replace hvr := hvr.below hs2
  replace hu := hu.below hs2
  replace hur := hur.below hs2
  clear hs2 hA1 hB1 hR1 hb1
  cases e2 : normB m q lb with
  | false =>
    have hcode : codeJN n p la m q lb = 1 := by unfold codeJN; rw [e1.out, e2]; rfl
    have g5 := ((hR2.set 0 (.int .i64 0)).set 1 (.int .i64 0)).set 2 (.slice none 0 0)
    have R0 := hR2.cell 0 rfl
    have R1 := hR2.cell 1 rfl
    have R2 := hR2.cell 2 rfl
    have F0 := hR2.frozen 0
    have F1 := hR2.frozen 1
    have F2 := hR2.frozen 2
    have g0 := g5.cell 0 rfl
    have g1 := g5.cell 1 rfl
    have g2 := g5.cell 2 rfl
    have hbt := hid hb2
    go_wp2_with fail
    refine bodyPost_ret (v := .tuple #[.agg #[.int .i64 0, .int .i64 0, .slice none 0 0], .int .i64 1]) (by simp [g0, g1, g2, results, Try.results49, go_sem]) rfl ⟨_, by unfold nJN pJN; rw [hcode]; rfl, by unfold lJN; rw [hcode]; exact OwnII.empty _ _ _, ((hbt.out.setCell (by simp; omega) _).setCell (by simp; omega) _).setCell (by simp; omega) _⟩
  | true =>
  replace e2 := hid e2
  have A0 := hA2.cell 0 rfl
  have B0 := hB2.cell 0 rfl
  cases e3 : (n == m) with
  | false =>
    have e3' : (n != m) = true := by simp [bne, e3]
    have e3n := hid (show ¬ n = m by simpa using e3)
    have hcode : codeJN n p la m q lb = 6 := by unfold codeJN; rw [e1.out, e2.out]; simp [e3n.out]
    have g5 := ((hR2.set 0 (.int .i64 0)).set 1 (.int .i64 0)).set 2 (.slice none 0 0)
    have R0 := hR2.cell 0 rfl
    have R1 := hR2.cell 1 rfl
    have R2 := hR2.cell 2 rfl
    have F0 := hR2.frozen 0
    have F1 := hR2.frozen 1
    have F2 := hR2.frozen 2
    have g0 := g5.cell 0 rfl
    have g1 := g5.cell 1 rfl
    have g2 := g5.cell 2 rfl
    have hbt := hid hb2
    go_wp2_with fail
    refine bodyPost_ret (v := .tuple #[.agg #[.int .i64 0, .int .i64 0, .slice none 0 0], .int .i64 6]) (by simp [g0, g1, g2, results, Try.results49, go_sem]) rfl ⟨_, by unfold nJN pJN; rw [hcode]; rfl, by unfold lJN; rw [hcode]; exact OwnII.empty _ _ _, ((hbt.out.setCell (by simp; omega) _).setCell (by simp; omega) _).setCell (by simp; omega) _⟩
  | true =>
  have e3' : (n != m) = false := by simp [bne, e3]
  obtain rfl : n = m := by simpa using e3
  have q1 := normB_of e1.out
  have q2 := normB_of e2.out
  obtain ⟨q10, q11, q12, q13, q14, q15, -⟩ := q1
  obtain ⟨-, -, q22, q23, q24, q25, -⟩ := q2
  obtain ⟨a, rfl⟩ := Int.eq_ofNat_of_zero_le q10
  obtain ⟨A, rfl⟩ : ∃ A : List (Pm a), la = vals A := ⟨_, (normB_vals e1.out).symm⟩
  obtain ⟨B, rfl⟩ : ∃ B : List (Pm a), lb = vals B := ⟨_, (normB_vals e2.out).symm⟩
  rw [length_vals] at q14 q24
  have hnA := hid (normB_nrm e1.out)
  have hnB := hid (normB_nrm e2.out)
  have hS := hid (jnS_eq p q A B)
  have hcA := two_of e1.out
  have hcB := two_of e2.out
  have hrA := rowsB_of hvr (hcA.imp id (by omega))
  have hrB := rowsB_of hur (hcB.imp id (by omega))
  have hvl : vs.length = A.length := by have := hvr.len; simpa using this
  have hul : us.length = B.length := by have := hur.len; simpa using this
  obtain ⟨f, w3, hrun, hf, hg⟩ := app_run (T := 22) (ty := 22) (ys := vs) sliceII infoSI rfl (own_empty w2 32 (B := w2.heap.size) (Nat.le_refl _)) (hv.below ((Below.refl _ _).alloc (Nat.le_refl _) (.cells #[] 32))) hrA.one (by simp) (by simp; omega) (by decide)
  simp only [List.nil_append] at hf
  have hbE : Below w2.heap.size w2 w3 := ((Below.refl _ _).alloc (Nat.le_refl _) _).grown hg (by simp) (fun k hk => by simp [blk] at hk; omega)
  have hO3 : RowsO w3 0 w2.heap.size f vs (vals A) := ⟨hf, hrA.below hbE, fun i hi k hk e => by
    have h1 := hrA.blks i hi k hk
    have h2 := (hf.blk_lt e.symm).1
    omega⟩
  obtain ⟨fa, fn, fc, rfl⟩ := own_lit hf
  have hcE := (hA2.alloc (.cells #[] 32)).cell 2 rfl
  have hB1 := (hB2.below hbE).cell 1 rfl
  have hz3 := hbE.size
  replace hA2 := hid hA2
  replace hB2 := hid hB2
  replace hR2 := hid hR2
  replace hb2 := hid hb2
  replace hO3 := hid hO3
  replace hbE := hid hbE
  replace hrB := hid hrB
  replace hu := hid hu
  clear hf hg hrA hv hvr hur
  by_cases hpar : q % 2 = 0
  case' pos =>
    have hpr := tm_even hpar
    obtain ⟨o, wF, usF, hOF, hbF, hwe⟩ : ∃ o wF usF, Hid (RowsO wF 0 w2.heap.size o usF (vals (A.map ((gar a).tw q)))) ∧ Hid (Below w2.heap.size w2 wF) ∧ (wF = w3 ∧ o = .slice fa fn fc) := ⟨_, w3, vs, by rw [tw_even hpar]; exact hO3, hbE, rfl, rfl⟩
    obtain ⟨hwe, hoe⟩ := hwe
    subst hwe hoe
    have hBF := (hB2.out.below hbF.out).cell 2 rfl
    have hln : (usF.length : Nat) = A.length := by have := hOF.out.len; simpa using this
    obtain ⟨v', wG, hrun2, hoG, hrG, hbG⟩ := hOF.out.both (hu.out.below hbF.out) (hrB.out.below hbF.out) (fun i hi k hk e => by have h1 := hrB.out.blks i hi k hk; have h2 := (hOF.out.own.blk_lt e.symm).1; omega) (by have := hbF.out.size; omega) (by omega)
    have hAG := (hA2.out.below hbF.out).keep (hbG.block _ (by omega))
    have G0 := hAG.cell 0 rfl
    go_wp2_with (first | (at_builtin; refine wpList_app hrun rfl _ _ rfl rfl rfl ?_) | (at_builtin; refine wpList_app hrun2 rfl _ _ rfl rfl rfl ?_))
  case' neg =>
    have hpr := tm_odd hpar
    go_wp2_with (at_builtin; refine wpList_app hrun rfl _ _ rfl rfl rfl ?_)
    refine (flipAll_spec _ vs A w3 0 (Nat.zero_le _) hO3.out.own.reads hO3.out.rows (by omega) (by omega)).mono ?_
    rintro e wF ⟨o, usF, rfl, hOF', hsF⟩
    rw [← tw_odd hpar] at hOF'
    have hOF := hid (hOF'.lower (B' := w2.heap.size) (Nat.le_refl 0) (by omega))
    have hbF := hid (hbE.out.trans (hsF.mono hz3))
    have hBF := (hB2.out.below hbF.out).cell 2 rfl
    have hln : (usF.length : Nat) = A.length := by have := hOF.out.len; simpa using this
    obtain ⟨v', wG, hrun2, hoG, hrG, hbG⟩ := hOF.out.both (hu.out.below hbF.out) (hrB.out.below hbF.out) (fun i hi k hk e => by have h1 := hrB.out.blks i hi k hk; have h2 := (hOF.out.own.blk_lt e.symm).1; omega) (by have := hbF.out.size; omega) (by omega)
    have hAG := (hA2.out.below hbF.out).keep (hbG.block _ (by omega))
    have G0 := hAG.cell 0 rfl
    clear hOF' hsF
    go_wp2_with (at_builtin; refine wpList_app hrun2 rfl _ _ rfl rfl rfl ?_)
  all_goals
    have hbWG := hid (hbF.out.trans hbG)
    have hzG := hbWG.out.size
    clear hbG hAG G0 hBF hcE hB1 A0 B0 hOF
    refine (settle_spec v' (usF ++ us) (A.map ((gar a).tw q) ++ B) wG 0 (Nat.zero_le _) hoG.reads (by rw [vals_append]; exact hrG) (by simp; omega) (by omega)).mono ?_
    rintro e w5 ⟨r, usr, rfl, hr, hrr, hs5, hp0, hp1⟩
    rw [List.length_append, List.length_map] at hp1
    have hSR := hid (show jnS (a : Int) p (vals A) q (vals B) = (((gar a).NF (0, A.map ((gar a).tw q) ++ B)).1 + (p + q), ((gar a).NF (0, A.map ((gar a).tw q) ++ B)).2) from hS.out.trans (by have := (gar a).NF_up (p + q) 0 (A.map ((gar a).tw q) ++ B); rwa [Int.zero_add] at this))
    have hRl := ((gar a).NF_len 0 (A.map ((gar a).tw q) ++ B)).1
    rw [List.length_append, List.length_map] at hRl
    have hz0 := hid (show a < 2 → p + q + ((gar a).NF (0, A.map ((gar a).tw q) ++ B)).1 = 0 from fun h2 => by
      rw [hcA.resolve_right (by omega), hcB.resolve_right (by omega)]
      have e0 : (gar a).NF (0, ([] : List (Pm a)).map ((gar a).tw q) ++ []) = (0, []) := rfl
      rw [e0]
      have a1 := q15.resolve_left (by omega)
      have a2 := q25.resolve_left (by omega)
      rw [a1, a2]; rfl)
    generalize hRe : (gar a).NF (0, A.map ((gar a).tw q) ++ B) = R at *
    have hnr := hid (show (gar a).Nrm R.2 from by rw [← hRe]; exact (gar a).nrm_NF _)
    clear hRe
    have hz5 := hs5.size
    have hbW5 := hid (hbWG.out.trans (hs5.mono (by omega)))
    have hA5 := hA2.out.below hbW5.out
    have hB5 := hB2.out.below hbW5.out
    have hR5 := hid (hR2.out.below hbW5.out)
    have G0 := hA5.cell 0 rfl
    have G1 := hA5.cell 1 rfl
    have G2 := hB5.cell 1 rfl
    have hul5 : usr.length = R.2.length := by have := hrr.rows.len; simpa using this
    have hln5 := hr.reads.len (P := Try.prog) 22 3 ⟨_, sliceII⟩
    rw [hul5] at hln5
    have hX5 := hid (Bx.new w5 #[.int .i64 a, .int .i64 (p + q + R.1), .slice none 0 0] 27)
    have hz6 : (w5.alloc (.cells #[.int .i64 a, .int .i64 (p + q + R.1), .slice none 0 0] 27)).heap.size = w5.heap.size + 1 := by simp
    have hb6 := hid ((Below.refl w5.heap.size w5).alloc (Nat.le_refl _) (.cells #[.int .i64 a, .int .i64 (p + q + R.1), .slice none 0 0] 27))
    replace hr := hid hr
    replace hrr := hid hrr
    clear hs5 hoG hrG hA5 hB5 hcA hcB
    go_wp2_with fail
    generalize w5.alloc (.cells #[.int .i64 a, .int .i64 (p + q + R.1), .slice none 0 0] 27) = w6 at *
    go_loopw [10] (fun i wr => ∃ (j : Nat) (o : Value) (us : List Value), j ≤ R.2.length ∧ i = .int .i64 j ∧ NB wr (w5.heap.size + 1) o us (R.2.take j) ∧ Bx wr w5.heap.size [.int .i64 a, .int .i64 (p + q + R.1), o] ∧ Below w5.heap.size w5 wr ∧ w5.heap.size + 1 ≤ wr.heap.size) (fun i _ => R.2.length - (intOf i).toNat)
    case atStart => exact ⟨0, .slice none 0 0, [], by omega, rfl, NB.nil a _ _, hX5.out, hb6.out, by omega⟩
    case round =>
      clear hX5 hb6
      obtain ⟨j, o, us, hj, rfl, hN, hX, hbw, hwz⟩ := hrel
      by_cases hlt : j < R.2.length
      case pos =>
        have hi := hr.out.reads.idx 22 sliceII sizeSI .i64 j (by omega) (by rw [hul5]; omega)
        simp only [Int.toNat_natCast] at hi
        have hc := (hr.out.reads.below (hbw.trans ((Below.refl wr.heap.size wr).drew.mono hbw.size))).cell j _ (vat_of (by omega))
        have hrow := hid (fun (w' : World) (hw : Below wr.heap.size wr w') => by have := ((hrr.out.rows.row j (by rw [length_vals]; exact hlt)).below hbw).below hw; rwa [rat_vals hlt] at this)
        have hC := hid (fun (w' : World) (hw : Below wr.heap.size wr w') => own_copy (vat usr j) (pat R.2 j).1 w' (hrow.out w' hw) (by rw [Pm.len]; omega))
        have N2 := hX.drew.cell 2 rfl
        have hbD := hid ((Below.refl wr.heap.size wr).drew)
        have hN' := hid hN
        have hX' := hid hX
        have hbw' := hid hbw
        have hdz : wr.drew.heap.size = wr.heap.size := rfl
        have htl : (R.2.take j).length ≤ 1048576 := by simp; omega
        clear hN hX hbw
        go_wp2_with fail
        go_region_law ((first | (refine step_call (hC.out _ hbD.out) (fun _ => by kernel_rfl) rfl (.tmp 66) rfl (by simp [Act.eval]) ?_; rintro e w3 ⟨x, rfl, hx, hs3⟩; refine ⟨_, rfl, ?_⟩; obtain ⟨xa, xn, xc, rfl⟩ := own_lit hx; have hbS : Below wr.heap.size wr w3 := hbD.out.trans hs3; obtain ⟨v', w4, hrun, hN4, hb4⟩ := hN'.out.app hbS hwz hx htl; have hX3 := hX'.out.below hbS; have hX4 := hX3.belowB hb4 (by omega); have c3 := hX3.cell 2 rfl; have c3a := (hX3.alloc (.cells #[.slice xa xn xc] 32)).cell 2 rfl; have c4 := hX4.cell 2 rfl; have f4 := hX4.frozen 2; have hz4 := hb4.size; obtain ⟨va, vn, vc, rfl⟩ := own_lit hN4.own) | (refine step_app hrun rfl (.tmp 62) (.tmp 68) rfl (by simp [Act.eval]) (by simp [Act.eval]) ?_)))
        all_goals
          have hXS := hid (hX4.set 2 (.slice va vn vc))
          have hNS := hid (hN4.set_block (g := w5.heap.size) (by omega) 2 (.slice va vn vc))
          have hbS' := hid (((hbw'.out.trans (hbS.mono (by omega))).trans (hb4.mono (by omega))).setCell (p := ⟨w5.heap.size, 2, none⟩) (Nat.le_refl _) (.slice va vn vc))
          have hzS : w5.heap.size + 1 ≤ (w4.setCell ⟨w5.heap.size, 2, none⟩ (.slice va vn vc)).heap.size := by have := hbS.size; simp [World.setCell]; omega
          clear hN' hX' hbw' hrow hC hbD hX4 hX3 hN4 hb4 hbS hx hs3 c3 c3a htl
          go_wp2_with fail
          go_roundw
          case rel => exact ⟨j + 1, _, _, by omega, by go_num, by rw [take_pat hlt]; exact hNS.out, hXS.out, hbS'.out, hzS⟩
          case measure => simp [intOf]; omega
      case neg =>
        obtain rfl : j = R.2.length := by omega
        rw [List.take_of_length_le (Nat.le_refl _)] at hN
        have hok := hid (show okJ a p (vals A) q (vals B) = normB a (p + q + R.1) (vals R.2) from by
          have e2 : 2 ≤ a ∨ p + q + R.1 = 0 := by
            rcases Nat.lt_or_ge a 2 with h2 | h2
            · exact .inr (hz0.out h2)
            · exact .inl h2
          rw [nrm_normB (by omega) hnr.out e2]
          show (inB (jnS (a : Int) p (vals A) q (vals B)).1 (-100) 100 && decide ((jnS (a : Int) p (vals A) q (vals B)).2.length ≤ 100)) = _
          rw [hSR.out, Int.add_comm R.1 (p + q)])
        have hS1 := hid (show (jnS (a : Int) p (vals A) q (vals B)).1 = p + q + R.1 from by rw [hSR.out, Int.add_comm])
        have hS2 := hid (show vals (jnS (a : Int) p (vals A) q (vals B)).2 = vals R.2 from by rw [hSR.out])
        clear hS hSR
        replace hN := hid hN
        replace hX := hid hX
        replace hbw := hid hbw
        clear G0 G1 G2
        go_wp2_with fail
        refine (l04ok_spec w5.heap.size a (p + q + R.1) o us (vals R.2) wr hX.out hN.out.own.reads hN.out.rowsR).mono ?_
        rintro e w7 ⟨rfl, hs7⟩
        obtain ⟨oa, on, oc, rfl⟩ := own_lit hN.out.own
        have hX7 := hX.out.below hs7
        have X0 := hX7.cell 0 rfl
        have X1 := hX7.cell 1 rfl
        have X2 := hX7.cell 2 rfl
        have hb7 := hid ((hbW5.out.trans (hbw.out.mono (by omega))).trans (hs7.mono (by omega)))
        have hR7 := hid (hR2.out.below hb7.out)
        have hN7 := (hN.out.below hs7).ownII
        have hbt7 := hid (hb2.out.trans (hb7.out.mono (by omega)))
        have hO7 := hid (hN7.widen (lo' := w.heap.size + 1 + 1 + 1) (by omega) (Nat.le_refl _))
        clear hs7 hN hX hN7 hX7 hbw
        cases e4 : normB a (p + q + R.1) (vals R.2) with
        | false =>
          have hcode : codeJN a p (vals A) a q (vals B) = 5 := by unfold codeJN; rw [e1.out, e2.out, hok.out, e4]; simp
          have g5 := ((hR7.out.set 0 (.int .i64 0)).set 1 (.int .i64 0)).set 2 (.slice none 0 0)
          have R0 := hR7.out.cell 0 rfl
          have R1 := hR7.out.cell 1 rfl
          have R2 := hR7.out.cell 2 rfl
          have F0 := hR7.out.frozen 0
          have F1 := hR7.out.frozen 1
          have F2 := hR7.out.frozen 2
          have g0 := g5.cell 0 rfl
          have g1 := g5.cell 1 rfl
          have g2 := g5.cell 2 rfl
          have hbt := hid hbt7.out
          go_wp2_with fail
          refine bodyPost_ret (v := .tuple #[.agg #[.int .i64 0, .int .i64 0, .slice none 0 0], .int .i64 5]) (by simp [g0, g1, g2, results, Try.results49, go_sem]) rfl ⟨_, by unfold nJN pJN; rw [hcode]; rfl, by unfold lJN; rw [hcode]; exact OwnII.empty _ _ _, ((hbt.out.setCell (by simp; omega) _).setCell (by simp; omega) _).setCell (by simp; omega) _⟩
        | true =>
          have hcode : codeJN a p (vals A) a q (vals B) = 0 := by unfold codeJN; rw [e1.out, e2.out, hok.out, e4]; simp
          have R0 := hR7.out.cell 0 rfl
          have R1 := hR7.out.cell 1 rfl
          have R2 := hR7.out.cell 2 rfl
          have F0 := hR7.out.frozen 0
          have F1 := hR7.out.frozen 1
          have F2 := hR7.out.frozen 2
          have g5 := ((hR7.out.set 0 (.int .i64 a)).set 1 (.int .i64 (p + q + R.1))).set 2 (.slice oa on oc)
          have g0 := g5.cell 0 rfl
          have g1 := g5.cell 1 rfl
          have g2 := g5.cell 2 rfl
          have hE := hid (((hO7.out.setAt (g := w.heap.size + 1 + 1) (by omega) 0 (.int .i64 a)).setAt (g := w.heap.size + 1 + 1) (by omega) 1 (.int .i64 (p + q + R.1))).setAt (g := w.heap.size + 1 + 1) (by omega) 2 (.slice oa on oc))
          clear g5
          go_wp2_with fail
          refine bodyPost_ret (v := .tuple #[.agg #[.int .i64 a, .int .i64 (p + q + R.1), .slice oa on oc], .int .i64 0]) (by simp [g0, g1, g2, results, Try.results49, go_sem]) rfl ⟨_, by unfold nJN pJN; rw [hcode, if_pos rfl, if_pos rfl, hS1.out], by unfold lJN; rw [hcode, if_pos rfl, hS2.out]; exact hE.out.lowered (by omega) (by simp [World.setCell]), ((hbt7.out.setCell (by simp; omega) _).setCell (by simp; omega) _).setCell (by simp; omega) _⟩


end Go.Proofs.Ytmeccemnmkobbaa
