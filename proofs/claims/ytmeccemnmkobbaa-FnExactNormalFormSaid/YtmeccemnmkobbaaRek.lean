/- Contracts: whether two words are equal as braids, in the program and in the reference. -/
import Derived.Test.YtmeccemnmkobbaaRej
import Derived.Test.YtmeccemnmkobbaaBre
import Derived.Test.YtmeccemnmkobbaaRwb
namespace Go.Proofs.Ytmeccemnmkobbaa
open Go.RowKit
open Pm

/-- a word on n strands -/
def Wok (n : Nat) (l : List Int) : Prop := ∀ i, i < l.length → nth l i ≠ 0 ∧ 1 - (n : Int) ≤ nth l i ∧ nth l i ≤ n - 1
theorem Wok.mem {n : Nat} {l : List Int} (h : Wok n l) {k : Int} (hk : k ∈ l) : k ≠ 0 ∧ 1 - (n : Int) ≤ k ∧ k ≤ n - 1 := by
  obtain ⟨i, hi, e⟩ := List.getElem_of_mem hk
  have := h i hi
  have e2 : nth l i = k := by simp [nth, hi, e]
  rwa [e2] at this
theorem Wok.nil {n : Nat} {l : List Int} (h : Wok n l) (hn : n < 2) : l = [] := by
  cases l with
  | nil => rfl
  | cons k l => have := h 0 (by simp); omega
theorem Wok.app {n : Nat} {l m : List Int} (h : Wok n l) (k : Wok n m) : Wok n (l ++ m) := fun i hi => by
  by_cases e : i < l.length
  · have := h i e; unfold nth at *; rwa [List.getElem?_append_left e]
  · have := k (i - l.length) (by rw [List.length_append] at hi; omega); unfold nth at *; rwa [List.getElem?_append_right (by omega)]
theorem Wok.inv {n : Nat} {l : List Int} (h : Wok n l) : Wok n (invW l) := fun i hi => by
  rw [length_invW] at hi
  rw [nth_invW hi]
  have := h (l.length - 1 - i) (by omega)
  omega
/-- equality of two words as braids, as the reference asks for it -/
theorem eqw_iff {n : Nat} {l m : List Int} (h : Wok n l) (k : Wok n m) : (nfW n (l ++ invW m)).1 = 0 ∧ (nfW n (l ++ invW m)).2.length = 0 ↔ nfW n l = nfW n m := by
  by_cases h2 : n < 2
  · rw [h.nil h2, k.nil h2]
    exact ⟨fun _ => rfl, fun _ => ⟨rfl, rfl⟩⟩
  · have e := (gar n).NF_raw_iff (top_ne_one (by omega)) (lts n l) (lts n m)
    rw [winv_lts n m (fun x hx => (k.mem hx).1), ← lts_append] at e
    unfold nfW
    rw [← e]
    constructor
    · intro ⟨e1, e2⟩
      exact Prod.ext e1 (List.length_eq_zero_iff.1 e2)
    · intro e1
      have e1' : (gar n).NF ((gar n).raw (lts n (l ++ invW m))) = (0, []) := e1
      rw [e1']; exact ⟨rfl, rfl⟩
theorem NB.reads {n : Nat} {w : World} {B : Nat} {o : Value} {us : List Value} {L : List (Pm n)} (h : NB w B o us L) : ReadsII w o (vals L) :=
  ⟨us, h.own.reads, by simpa using h.len, fun i hi => by rw [length_vals] at hi; rw [rat_vals hi]; exact (h.row i hi).reads⟩
theorem vals_inj {n : Nat} {L M : List (Pm n)} : vals L = vals M ↔ L = M :=
  ⟨fun h => List.map_inj_right (fun _ _ e => Subtype.ext e) |>.1 h, fun h => by rw [h]⟩

set_option maxRecDepth 100000 in
set_option maxHeartbeats 4000000 in
theorem eqw_impl (n : Nat) (v u : Value) (l m : List Int) (w : World) (h : Reads w v (ints l)) (h' : Reads w u (ints m)) (hl : l.length ≤ 1000) (hm : m.length ≤ 1000) (hr : Wok n l) (hr' : Wok n m) (hn : n ≤ 12) :
    Calls Try.prog 80 #[.int .i64 (n : Int), v, u] w fun e w' => e = .returned (.bool (decide (nfW n l = nfW n m))) ∧ Below w.heap.size w w' := by
  go_enter Try.func80, Try.ntmps80
  go_wp2_with fail
  refine (normal_impl n v l w h hl hr hn).mono ?_
  rintro e w1 ⟨o1, us1, rfl, hN1, hs1⟩
  replace hN1 := hid hN1
  replace hs1 := hid hs1
  have h1 := hid (h'.below hs1.out)
  go_wp2_with fail
  refine (normal_impl n u m w1 h1.out hm hr' hn).mono ?_
  rintro e w2 ⟨o2, us2, rfl, hN2, hs2⟩
  replace hN2 := hid hN2
  replace hs2 := hid hs2
  go_wp2_with fail
  refine (sn_impl n (nfW n l).1 n (nfW n m).1 o1 o2 (vals (nfW n l).2) (vals (nfW n m).2) w2 (hN1.out.below hs2.out).reads hN2.out.reads).mono ?_
  rintro e w3 ⟨rfl, hs3⟩
  have e : sameN n (nfW n l).1 (vals (nfW n l).2) n (nfW n m).1 (vals (nfW n m).2) = decide (nfW n l = nfW n m) := by
    unfold sameN
    rw [show ((n : Int) == n) = true from by simp, Bool.true_and]
    by_cases e : nfW n l = nfW n m
    · rw [e]; simp
    · rw [decide_eq_false e]
      cases e1 : ((nfW n l).1 == (nfW n m).1) with
      | false => rfl
      | true =>
        rw [Bool.true_and, decide_eq_false]
        intro e2
        exact e (Prod.ext (by simpa using e1) (vals_inj.1 e2))
  rw [e]
  replace hs3 := hid hs3
  have hz1 := hs1.out.size
  have hz2 := hs2.out.size
  go_wp2_with fail
  go_ret
  exact ⟨rfl, hs1.out.trans ((hs2.out.mono hz1).trans (hs3.out.mono (by omega)))⟩

set_option maxRecDepth 100000 in
set_option maxHeartbeats 4000000 in
theorem equal_spec (n : Nat) (v u : Value) (l m : List Int) (w : World) (h : Reads w v (ints l)) (h' : Reads w u (ints m)) (hl : l.length ≤ 500) (hm : m.length ≤ 500) (hr : Wok n l) (hr' : Wok n m) (hn : n ≤ 12) :
    Calls Try.prog 78 #[.int .i64 (n : Int), v, u] w fun e w' => e = .returned (.bool (decide (nfW n l = nfW n m))) ∧ Below w.heap.size w w' := by
  have hq := eqw_iff hr hr'
  go_enter Try.func78, Try.ntmps78
  go_wp2_with fail
  refine (own_copy v l w h (by omega)).mono ?_
  rintro e w1 ⟨a, rfl, ha, hs1⟩
  have h1 := hid (h'.below hs1)
  replace ha := hid ha
  replace hs1 := hid hs1
  have hz1 := hs1.out.size
  go_wp2_with fail
  refine (inv_spec' u m w1 h1.out (by omega) (fun k hk => by have := hr' k hk; omega)).mono ?_
  rintro e w2 ⟨b, rfl, hb, hs2⟩
  have hz2 := hs2.size
  obtain ⟨c, w3, hrun, hc, hg3⟩ := app_run (T := 32) (ty := 32) sliceI infoI rfl (ha.out.below hs2) hb.reads (oneCell_ints _) (by omega) (by simp; omega) (by decide)
  have hs3 := hid ((hs1.out.trans (hs2.mono hz1)).grown hg3 (by omega) (fun j hj => (ha.out.below hs2).blk_lt hj |>.1))
  replace hc := hid hc
  clear hs2 hb hg3 h1 ha hs1
  go_wp2_with (at_builtin; refine wpList_app hrun rfl _ _ rfl rfl rfl ?_)
  have hc' : Reads w3 c (ints (l ++ invW m)) := by have := hc.out.reads; simpa [ints] using this
  clear hrun
  refine (normal_spec n c (l ++ invW m) w3 hc' (by simp; omega) (hr.app hr'.inv) hn).mono ?_
  rintro e w4 ⟨o, us, rfl, ho, hrw, hs4⟩
  have hz3 := hs3.out.size
  have hz4 := hs4.size
  have hul := hrw.rows.len
  rw [length_vals] at hul
  have hfin := hid (hs3.out.trans (hs4.mono hz3))
  obtain ⟨oa, on, oc, rfl⟩ := own_lit ho
  have hX := Bx.new w4 #[.int .i64 n, .int .i64 (nfW n (l ++ invW m)).1, .slice oa on oc] 27
  have c1 := hX.cell 1 rfl
  have c2 := hX.cell 2 rfl
  have hln := ho.reads.len (P := Try.prog) 22 3 ⟨_, sliceII⟩
  rw [hul] at hln
  clear hc hs4 ho hrw hc'
  have hfb := hid ((hfin.out.alloc (by omega) (.cells #[.int .i64 n, .int .i64 (nfW n (l ++ invW m)).1, .slice oa on oc] 27)))
  by_cases e1 : (nfW n (l ++ invW m)).1 = 0
  · by_cases e2 : (nfW n (l ++ invW m)).2.length = 0
    · have hD := decide_eq_true (hq.1 ⟨e1, e2⟩)
      rw [e1] at c1 hfb
      rw [e2] at hln
      rw [e1]
      replace hD := hid hD
      clear hq e1 e2 hX
      go_wp2_with fail
      go_ret
      exact ⟨by rw [hD.out]; rfl, hfb.out⟩
    · have hD := hid (decide_eq_false (fun e => e2 (hq.2 e).2))
      rw [e1] at c1 hfb
      rw [e1]
      have e3 : (((nfW n (l ++ invW m)).2.length : Int) == 0) = false := by rw [beq_eq_false_iff_ne]; omega
      clear hq e1 e2 hX
      go_wp2_with fail
      go_ret
      exact ⟨by rw [hD.out]; rfl, hfb.out⟩
  · have hD := hid (decide_eq_false (fun e => e1 (hq.2 e).1))
    have e3 : ((nfW n (l ++ invW m)).1 == 0) = false := by rw [beq_eq_false_iff_ne]; exact e1
    clear hq e1 hX
    go_wp2_with fail
    go_ret
    exact ⟨by rw [hD.out]; rfl, hfb.out⟩


end Go.Proofs.Ytmeccemnmkobbaa
