/- Contracts: the normal form of a word, in the reference. -/
import Derived.Test.YtmeccemnmkobbaaRec
import Derived.Test.YtmeccemnmkobbaaBre
namespace Go.Proofs.Ytmeccemnmkobbaa
open Go.RowKit
open Pm

/-- the call's own slice o of rows that can be read, in blocks from lo on, none of them o's own -/
structure RowsO (w : World) (lo B : Nat) (o : Value) (us : List Value) (ls : List (List Int)) : Prop where
  own : Own w B 32 o us
  rows : RowsB w lo us ls
  ap : ∀ i, i < ls.length → Apart (vat us i) o
theorem RowsO.below {w w' : World} {lo B : Nat} {o : Value} {us : List Value} {ls : List (List Int)} (h : RowsO w lo B o us ls) (hb : Below w.heap.size w w') : RowsO w' lo B o us ls := ⟨h.own.below hb, h.rows.below hb, h.ap⟩
theorem RowsO.lower {w : World} {lo lo' B B' : Nat} {o : Value} {us : List Value} {ls : List (List Int)} (h : RowsO w lo B o us ls) (h1 : lo' ≤ lo) (h2 : B' ≤ B) : RowsO w lo' B' o us ls := ⟨h.own.mono h2, ⟨h.rows.rows, fun i hi k hk => by have := h.rows.blks i hi k hk; omega⟩, h.ap⟩
theorem RowsO.empty (w : World) (lo B : Nat) (hB : B ≤ w.heap.size) : RowsO (w.alloc (.cells #[] 32)) lo B (.slice (some ⟨w.heap.size, 0, none⟩) 0 0) [] [] :=
  ⟨own_empty w _ hB, ⟨⟨rfl, fun i hi => absurd hi (by simp)⟩, fun i hi => absurd hi (by simp)⟩, fun i hi => absurd hi (by simp)⟩
theorem RowsO.len {w : World} {lo B : Nat} {o : Value} {us : List Value} {ls : List (List Int)} (h : RowsO w lo B o us ls) : us.length = ls.length := h.rows.rows.len
theorem Bx.belowB {w w' : World} {g B : Nat} {cs : List Value} (h : Bx w g cs) (hb : Below B w w') (hg : g < B) : Bx w' g cs := h.keep (hb.block g hg)
theorem RowsB.set_block {w : World} {lo : Nat} {us : List Value} {ls : List (List Int)} (h : RowsB w lo us ls) {g : Nat} (h1 : g < lo) (i : Nat) (x : Value) : RowsB (w.setCell ⟨g, i, none⟩ x) lo us ls :=
  ⟨⟨h.rows.len, fun j hj => (h.rows.row j hj).keep fun k hk _ => Below.heap_setCell _ _ _ _ (fun e => by have := h.blks j hj k hk; simp at e; omega)⟩, fun j hj k hk => by have := h.blks j hj k hk; simpa [World.setCell] using this⟩
theorem RowsB.lower {w : World} {lo lo' : Nat} {us : List Value} {ls : List (List Int)} (h : RowsB w lo us ls) (h1 : lo' ≤ lo) : RowsB w lo' us ls := ⟨h.rows, fun i hi k hk => by have := h.blks i hi k hk; omega⟩
theorem RowsO.set_block {w : World} {lo B : Nat} {o : Value} {us : List Value} {ls : List (List Int)} (h : RowsO w lo B o us ls) {g : Nat} (h1 : g < lo) (h2 : g < B) (i : Nat) (x : Value) : RowsO (w.setCell ⟨g, i, none⟩ x) lo B o us ls :=
  ⟨h.own.set_block h2 i x, ⟨⟨h.rows.rows.len, fun j hj => (h.rows.rows.row j hj).keep fun k hk _ => Below.heap_setCell _ _ _ _ (fun e => by have := h.rows.blks j hj k hk; simp at e; omega)⟩, fun j hj k hk => by have := h.rows.blks j hj k hk; simpa [World.setCell] using this⟩, h.ap⟩
/-- a row is put behind -/
theorem RowsO.app {w : World} {lo B : Nat} {o u : Value} {us : List Value} {ls : List (List Int)} {l : List Int} (h : RowsO w lo B o us ls) (hu : Reads w u (ints l)) (hk : ∀ k, blk u = some k → lo ≤ k ∧ k < w.heap.size) (hap : Apart u o) (h1 : u.oneCell' = true) (hB : B ≤ w.heap.size) (hl : us.length ≤ 1048576) :
    ∃ v' w', (Builtin.append_ #[22, 22] 22 #[o, .slice (some ⟨w.heap.size, 0, none⟩) 1 1]).run Try.prog (w.alloc (.cells #[u] 32)) = .ok v' w' ∧ RowsO w' lo B v' (us ++ [u]) (ls ++ [l]) ∧ Below B w w' := by
  have ha : Below w.heap.size w (w.alloc (.cells #[u] 32)) := (Below.refl _ _).alloc (Nat.le_refl _) _
  have hA := h.below ha
  obtain ⟨v', w', hr, ho, hg, hst⟩ := app_runF (ty := 22) sliceII infoSI rfl hA.own (reads_one w u 32) (by simpa using h1) (by simp; omega) (by simp; omega) (by decide)
  have hbw : Below B w w' := (ha.mono hB).grown hg (by simp; omega) (fun k hk => (hA.own.blk_lt hk).1)
  have hsz := hbw.size
  have hkeep : ∀ {v : Value} {xs : List Value}, Reads w v xs → Apart v o → Reads w' v xs := fun {v xs} hr ha2 =>
    (hr.below ha).keep fun k hk hlt => hg.block k hlt (fun e => ha2 k hk e)
  have hst' : ∀ {v : Value}, (∀ k, blk v = some k → k < w.heap.size) → Apart v o → Apart v v' := fun {v} hv ha2 k hk e => by
    rcases hst k e.symm with h1 | h1
    · exact ha2 k hk h1.symm
    · have := hv k hk; simp at h1; omega
  have hl := h.len
  refine ⟨v', w', hr, ⟨ho, ⟨⟨by simp [hl], fun i hi => ?_⟩, fun i hi k hk' => ?_⟩, fun i hi => ?_⟩, hbw⟩
  · rw [List.length_append, List.length_singleton] at hi
    by_cases e : i < ls.length
    · rw [vat_snoc (by omega), rat_snoc e]; exact hkeep (h.rows.rows.row i e) (h.ap i e)
    · obtain rfl : i = ls.length := by omega
      rw [rat_last, ← hl, vat_last]; exact hkeep hu hap
  · rw [List.length_append, List.length_singleton] at hi
    by_cases e : i < ls.length
    · rw [vat_snoc (by omega)] at hk'; have := h.rows.blks i e k hk'; omega
    · obtain rfl : i = ls.length := by omega
      rw [← hl, vat_last] at hk'; have := hk k hk'; omega
  · rw [List.length_append, List.length_singleton] at hi
    by_cases e : i < ls.length
    · rw [vat_snoc (by omega)]; exact hst' (fun k hk => (h.rows.blks i e k hk).2) (h.ap i e)
    · obtain rfl : i = ls.length := by omega
      rw [← hl, vat_last]; exact hst' (fun k hk' => (hk k hk').2) hap
/-- a row that the call has just made is put behind -/
theorem RowsO.new {w w1 : World} {lo B : Nat} {o u : Value} {us : List Value} {ls : List (List Int)} {l : List Int} (h : RowsO w lo B o us ls) (hb : Below w.heap.size w w1) (hu : Own w1 w.heap.size 2 u (ints l)) (hlo : lo ≤ w.heap.size) (hB : B ≤ w.heap.size) (hl : us.length ≤ 1048576) :
    ∃ v' w', (Builtin.append_ #[22, 22] 22 #[o, .slice (some ⟨w1.heap.size, 0, none⟩) 1 1]).run Try.prog (w1.alloc (.cells #[u] 32)) = .ok v' w' ∧ RowsO w' lo B v' (us ++ [u]) (ls ++ [l]) ∧ Below B w1 w' := by
  have hsz := hb.size
  refine (h.below hb).app hu.reads (fun k hk => by have := hu.blk_lt hk; omega) (apart_new' h.own hu) ?_ (by omega) hl
  obtain ⟨a, c, e, -⟩ := hu.reads.form
  rw [e]; rfl
theorem take_pat {n : Nat} {L : List (Pm n)} {j : Nat} (h : j < L.length) : L.take (j + 1) = L.take j ++ [pat L j] := by rw [List.take_add_one, pat_of h]; rfl

set_option maxRecDepth 100000 in
set_option maxHeartbeats 2000000 in
theorem flipAll_spec {n : Nat} (v : Value) (vs : List Value) (L : List (Pm n)) (w : World) (lo : Nat) (hlo : lo ≤ w.heap.size) (h : Reads w v vs) (hr : RowsB w lo vs (vals L)) (hl : L.length ≤ 1048576) (hn : n ≤ 12) :
    Calls Try.prog 104 #[v] w fun e w' => ∃ u us, e = .returned u ∧ RowsO w' lo w.heap.size u us (vals (L.map (gar n).tau)) ∧ Below w.heap.size w w' := by
  have hvl : vs.length = L.length := by have := hr.rows.len; simpa using this
  have hlen := h.len (P := Try.prog) 22 3 ⟨_, sliceII⟩
  rw [hvl] at hlen
  go_enter Try.func104, Try.ntmps104
  go_wp2_with fail
  go_loopw [3, 4] (fun o i wr => ∃ (j : Nat) (us : List Value), j ≤ L.length ∧ i = .int .i64 j ∧ RowsO wr lo w.heap.size o us (vals ((L.take j).map (gar n).tau)) ∧ Below w.heap.size w wr) (fun _ i _ => L.length - (intOf i).toNat)
  case atStart => exact ⟨0, [], by omega, rfl, RowsO.empty w lo _ (Nat.le_refl _), (Below.refl _ _).alloc (Nat.le_refl _) _⟩
  case round =>
    obtain ⟨j, us, hj, rfl, hO, hb⟩ := hrel
    by_cases hlt : j < L.length
    · have hi := h.idx 22 sliceII sizeSI .i64 j (by omega) (by omega)
      simp only [Int.toNat_natCast] at hi
      have hc := (h.below hb).cell j _ (vat_of (by omega))
      have hrow := (hr.rows.below hb).row j (by simpa using hlt)
      rw [rat_vals hlt] at hrow
      have hol := hO.len
      rw [length_vals, List.length_map, List.length_take] at hol
      have hO' := hid hO
      have hb' := hid hb
      have htk := hid (take_pat hlt)
      have hszb := hb.size
      clear hO hb hvl
      generalize pat L j = p at *
      go_wp2_with fail
      refine (flip_spec _ _ _ hrow (by rw [p.len]; omega) (Pm.small p)).mono ?_
      rintro e w1 ⟨x, rfl, hx, hs1⟩
      rw [flip_val] at hx
      obtain ⟨xa, xn, xc, rfl⟩ : ∃ a m c, x = Value.slice a m c := by obtain ⟨a, c, e⟩ := hx.form3'; exact ⟨a, _, c, e⟩
      obtain ⟨v', w2, hrun, hO2, hb2⟩ := hO'.out.new hs1 hx (by omega) hszb (by omega)
      clear hol
      go_wp2_with (at_builtin; refine wpList_app hrun rfl _ _ rfl rfl rfl ?_)
      go_roundw
      case rel => exact ⟨j + 1, _, by omega, by go_num, by rw [htk.out, List.map_append, vals_append]; exact hO2, hb'.out.trans ((hs1.mono hszb).trans hb2)⟩
      case measure => simp [intOf]; omega
    · obtain rfl : j = L.length := by omega
      rw [List.take_of_length_le (Nat.le_refl _)] at hO
      go_wp2_with fail
      go_ret
      exact ⟨_, us, rfl, hO, hb⟩


theorem inv_sg {n k : Nat} (h : k < n) : (gar n).inv (sg n k h) = sg n k h := (gar n).mul_left (a := sg n k h) (by rw [(gar n).mul_inv]; exact (sg_sg h).symm)
theorem stp_up {n : Nat} {k : Int} (h0 : 0 < k) (h1 : k.toNat < n) (x : Gar.St (Pm n)) : (gar n).stp x (ltr n k) = (x.1, x.2 ++ [mul (one n) (sg n k.toNat h1)]) := by
  have e1 : ltr n k = (true, sg n k.toNat h1) := by
    unfold ltr
    rw [show k.natAbs = k.toNat by omega, sgT_eq h1]; simp [h0]
  rw [e1, Gar.stp_pos]
  congr 2
  exact congrArg (fun y => [y]) ((gar n).one_mul _).symm
theorem stp_down {n m : Nat} (h0 : 0 < m) (h1 : m < n) (x : Gar.St (Pm n)) : (gar n).stp x (ltr n (-(m : Int))) = (x.1 - 1, x.2.map (gar n).tau ++ [mul (top n) (sg n m h1)]) := by
  have e1 : ltr n (-(m : Int)) = (false, sg n m h1) := by
    unfold ltr
    rw [show (-(m : Int)).natAbs = m by omega, sgT_eq h1]; simp
  rw [e1, Gar.stp_neg, inv_sg]; rfl
/-- the state behind the first letters -/
def stTo (n : Nat) (l : List Int) (j : Nat) : Gar.St (Pm n) := (gar n).raw (lts n (l.take j))
theorem stTo_zero (n : Nat) (l : List Int) : stTo n l 0 = (0, []) := rfl
theorem stTo_succ {n : Nat} {l : List Int} {j : Nat} (h : j < l.length) : stTo n l (j + 1) = (gar n).stp (stTo n l j) (ltr n (nth l j)) := by
  unfold stTo
  rw [List.take_add_one, nth_of h, Option.toList_some, lts_append, Gar.raw_append]; rfl
theorem stTo_len {n : Nat} (l : List Int) (j : Nat) : (stTo n l j).2.length ≤ j ∧ -(j : Int) ≤ (stTo n l j).1 ∧ (stTo n l j).1 ≤ 0 := by
  induction j with
  | zero => simp [stTo_zero]
  | succ j ih =>
    by_cases h : j < l.length
    · rw [stTo_succ h]
      unfold Gar.stp
      split
      · simp; omega
      · simp; omega
    · have e : stTo n l (j + 1) = stTo n l j := by unfold stTo; rw [List.take_of_length_le (by omega), List.take_of_length_le (by omega)]
      rw [e]; omega
theorem nfW_of {n : Nat} (l : List Int) : nfW n l = ((stTo n l l.length).1 + ((gar n).NF (0, (stTo n l l.length).2)).1, ((gar n).NF (0, (stTo n l l.length).2)).2) := by
  have e : (gar n).raw (lts n l) = stTo n l l.length := by unfold stTo; rw [List.take_length]
  unfold nfW
  rw [e]
  have := (gar n).NF_up (stTo n l l.length).1 0 (stTo n l l.length).2
  rw [show (0 : Int) + (stTo n l l.length).1 = (stTo n l l.length).1 by omega] at this
  show (gar n).NF ((stTo n l l.length).1, (stTo n l l.length).2) = _
  rw [this, Int.add_comm]

set_option maxRecDepth 100000 in
set_option maxHeartbeats 4000000 in
theorem normal_spec (n : Nat) (v : Value) (l : List Int) (w : World) (h : Reads w v (ints l)) (hl : l.length ≤ 1000) (hr : ∀ i, i < l.length → nth l i ≠ 0 ∧ 1 - (n : Int) ≤ nth l i ∧ nth l i ≤ n - 1) (hn : n ≤ 12) :
    Calls Try.prog 102 #[.int .i64 (n : Int), v] w fun e w' => ∃ u us, e = .returned (.agg #[.int .i64 n, .int .i64 (nfW n l).1, u]) ∧ Own w' w.heap.size 32 u us ∧ RowsB w' w.heap.size us (vals (nfW n l).2) ∧ Below w.heap.size w w' := by
  have hs := h.small
  have hlen := h.len (P := Try.prog) 32 3 ⟨_, sliceI⟩
  simp only [length_ints] at hs hlen
  have hA0 := (Bx.new w #[.int .i64 0, .int .i64 0, .slice none 0 0] 27).alloc (.cells #[.int .i64 (n : Int), .int .i64 0, .slice none 0 0] 27)
  have hB0 := Bx.new (w.alloc (.cells #[.int .i64 0, .int .i64 0, .slice none 0 0] 27)) #[.int .i64 (n : Int), .int .i64 0, .slice none 0 0] 27
  have hbox : Below w.heap.size w ((w.alloc (.cells #[.int .i64 0, .int .i64 0, .slice none 0 0] 27)).alloc (.cells #[.int .i64 (n : Int), .int .i64 0, .slice none 0 0] 27)) := ((Below.refl _ _).alloc (Nat.le_refl _) _).alloc (by simp) _
  have hsz2 : ((w.alloc (.cells #[.int .i64 0, .int .i64 0, .slice none 0 0] 27)).alloc (.cells #[.int .i64 (n : Int), .int .i64 0, .slice none 0 0] 27)).heap.size = w.heap.size + 1 + 1 := by simp
  simp only [World.size_alloc] at hB0
  go_enter Try.func102, Try.ntmps102
  go_wp2_with fail
  generalize hW : (w.alloc (.cells #[.int .i64 0, .int .i64 0, .slice none 0 0] 27)).alloc (.cells #[.int .i64 (n : Int), .int .i64 0, .slice none 0 0] 27) = w2 at *
  clear hW
  go_loopw [6, 7, 8] (fun o i _ wr => ∃ (j : Nat) (us : List Value), j ≤ l.length ∧ i = .int .i64 j ∧ RowsO wr w2.heap.size w2.heap.size o us (vals (stTo n l j).2) ∧ Bx wr (w.heap.size + 1) [.int .i64 (n : Int), .int .i64 (stTo n l j).1, .slice none 0 0] ∧ Bx wr w.heap.size [.int .i64 0, .int .i64 0, .slice none 0 0] ∧ Below w.heap.size w wr ∧ w2.heap.size ≤ wr.heap.size) (fun _ i _ _ => l.length - (intOf i).toNat)
  case atStart => exact ⟨0, [], by omega, rfl, by rw [← hsz2]; exact RowsO.empty w2 _ _ (Nat.le_refl _), hB0.alloc _, hA0.alloc _, hbox.alloc (by omega) _, by simp⟩
  case round =>
    clear hA0 hB0
    obtain ⟨j, us, hj, rfl, hO, hB, hA, hb, hwz⟩ := hrel
    have hstl := stTo_len (n := n) l j
    have hol := hO.len
    rw [length_vals] at hol
    by_cases hlt : j < l.length
    case pos =>
      have hi := h.idx 32 sliceI sizeI .i64 j (by omega) (by simpa using hlt)
      simp only [Int.toNat_natCast] at hi
      have hc := (h.below hb).int hlt
      obtain ⟨k0, k1, k2⟩ := hr j hlt
      have hst := hid (stTo_succ (n := n) hlt)
      replace hr := hid hr
      generalize nth l j = k at *
      generalize hx : stTo n l j = x at *
      clear hx
      have habs := hid (fun w => abs_spec k w (by omega))
      have hO' := hid hO
      have hb' := hid hb
      have hB' := hid hB
      have hA' := hid hA
      by_cases hk : 0 < k
      · obtain ⟨m, rfl⟩ : ∃ m : Nat, k = m := ⟨k.toNat, by omega⟩
        have hkn : m < n := by omega
        have ea : absI (m : Int) = m := by unfold absI; rw [if_neg (by omega)]
        rw [ea] at habs
        have hup := hid (stp_up (n := n) hk (by simpa using hkn) x)
        clear hb hB hA hO ea
        go_wp2_with fail
        refine (habs.out _).mono ?_
        rintro e w3 ⟨rfl, rfl⟩
        go_wp2_with fail
        refine (id4_spec (n : Int) _ (by omega) (by omega)).mono ?_
        rintro e w4 ⟨y, rfl, hy, hs4⟩
        rw [Int.toNat_natCast, idn_val] at hy
        go_wp2_with fail
        refine (behind_spec (m : Int) _ _ _ hy.reads (by rw [Pm.len]; omega) (by omega) (by omega)).mono ?_
        rintro e w5 ⟨z, rfl, hz, hs5⟩
        rw [back_val (one n) hkn (by omega)] at hz
        obtain ⟨za, zn, zc, rfl⟩ : ∃ a m c, z = Value.slice a m c := by obtain ⟨a, c, e⟩ := hz.form3'; exact ⟨a, _, c, e⟩
        have hz4 := hs4.size
        have hz5 := hs5.size
        obtain ⟨v', w6, hrun, hO2, hb2⟩ := (hO'.out.below hs4).new hs5 hz (by omega) (by omega) (by omega)
        clear hol hy
        have hz6 := hb2.size
        go_wp2_with (at_builtin; refine wpList_app hrun rfl _ _ rfl rfl rfl ?_)
        go_roundw
        case rel =>
          refine ⟨j + 1, us ++ [.slice za zn zc], by omega, by go_num, ?_, ?_, ?_, ?_, by omega⟩
          · rw [hst.out, hup.out, vals_append]; exact hO2
          · rw [hst.out, hup.out]; exact (((hB'.out.below hs4).below hs5).belowB hb2 (by omega))
          · exact (((hA'.out.below hs4).below hs5).belowB hb2 (by omega))
          · exact ((hb'.out.trans (hs4.mono (by omega))).trans (hs5.mono (by omega))).trans (hb2.mono (by omega))
        case measure => simp [intOf]; omega
      · obtain ⟨m, rfl⟩ : ∃ m : Nat, k = -(m : Int) := ⟨(-k).toNat, by omega⟩
        have hkn : m < n := by omega
        have ea : absI (-(m : Int)) = m := by unfold absI; rw [if_pos (by omega)]; omega
        rw [ea] at habs
        have hup := hid (stp_down (n := n) (by omega) hkn x)
        have hc1 := hB.cell 1 rfl
        have hf1 := hB.frozen 1
        have hB2 := hid (hB.set 1 (.int .i64 (x.1 - 1)))
        have hA2 := hid (hA.other (a := ⟨w.heap.size + 1, 1, none⟩) (by simp) (.int .i64 (x.1 - 1)))
        have hO2 := hid (hO.set_block (g := w.heap.size + 1) (by omega) (by omega) 1 (.int .i64 (x.1 - 1)))
        have hb2 := hid (show Below w.heap.size w (wr.setCell ⟨w.heap.size + 1, 1, none⟩ (.int .i64 (x.1 - 1))) from hb.setCell (by simp) _)
        have hsz3 : (wr.setCell ⟨w.heap.size + 1, 1, none⟩ (.int .i64 (x.1 - 1))).heap.size = wr.heap.size := by simp [World.setCell]
        clear hb hB hA hO ea hO' hb' hB' hA'
        go_wp2_with fail
        refine (habs.out _).mono ?_
        rintro e w3 ⟨rfl, rfl⟩
        go_wp2_with fail
        generalize hWS : wr.setCell ⟨w.heap.size + 1, 1, none⟩ (.int .i64 (x.1 - 1)) = wS at *
        clear hWS hc1 hf1
        refine (flipAll_spec u6 us x.2 wS w2.heap.size (by omega) hO2.out.own.reads hO2.out.rows (by omega) hn).mono ?_
        rintro e w4 ⟨q, us2, rfl, hq, hs4⟩
        go_wp2_with fail
        refine (half_spec (n : Int) _ (by omega) (by omega)).mono ?_
        rintro e w5 ⟨y, rfl, hy, hs5⟩
        rw [Int.toNat_natCast, half_val] at hy
        go_wp2_with fail
        refine (behind_spec (m : Int) _ _ _ hy.reads (by rw [Pm.len]; omega) (by omega) (by omega)).mono ?_
        rintro e w6 ⟨z, rfl, hz, hs6⟩
        rw [back_val (top n) hkn (by omega)] at hz
        obtain ⟨za, zn, zc, rfl⟩ : ∃ a m c, z = Value.slice a m c := by obtain ⟨a, c, e⟩ := hz.form3'; exact ⟨a, _, c, e⟩
        have hz4 := hs4.size
        have hz5 := hs5.size
        have hz6 := hs6.size
        have hql := hq.len
        rw [length_vals, List.length_map] at hql
        obtain ⟨v', w7, hrun, hO3, hb3⟩ := ((hq.lower (Nat.le_refl _) (show w2.heap.size ≤ wS.heap.size by omega)).below hs5).new hs6 hz (by omega) (by omega) (by omega)
        clear hol hy hq hql
        have hz7 := hb3.size
        go_wp2_with (at_builtin; refine wpList_app hrun rfl _ _ rfl rfl rfl ?_)
        go_roundw
        case rel =>
          refine ⟨j + 1, us2 ++ [.slice za zn zc], by omega, by go_num, ?_, ?_, ?_, ?_, by omega⟩
          · rw [hst.out, hup.out, vals_append]; exact hO3
          · rw [hst.out, hup.out]; exact ((((hB2.out.below hs4).below hs5).below hs6).belowB hb3 (by omega))
          · exact ((((hA2.out.below hs4).below hs5).below hs6).belowB hb3 (by omega))
          · exact (((hb2.out.trans (hs4.mono (by omega))).trans (hs5.mono (by omega))).trans (hs6.mono (by omega))).trans (hb3.mono (by omega))
        case measure => simp [intOf]; omega
    case neg =>
      obtain rfl : j = l.length := by omega
      have hnf := hid (nfW_of (n := n) l)
      generalize stTo n l l.length = x at *
      have hO' := hid hO
      have hb' := hid hb
      have hA' := hid hA
      have hB' := hid hB
      clear hO hb hA hB
      go_wp2_with fail
      refine (settle_spec u6 us x.2 wr w2.heap.size hwz hO'.out.own.reads hO'.out.rows (by omega) hn).mono ?_
      rintro e w3 ⟨q, us2, rfl, hq, hqr, hs3, htp⟩
      obtain ⟨qa, qn, qc, rfl⟩ : ∃ a m c, q = Value.slice a m c := by obtain ⟨a, c, e⟩ := hq.form3'; exact ⟨a, _, c, e⟩
      have hB3 := hB'.out.below hs3
      have hA3 := hA'.out.below hs3
      have hz3 := hs3.size
      have c0 := hB3.cell 0 rfl
      have c1 := hB3.cell 1 rfl
      have c2 := hB3.cell 2 rfl
      have d0 := hA3.cell 0 rfl
      have d1 := hA3.cell 1 rfl
      have d2 := hA3.cell 2 rfl
      have f1 := hB3.frozen 1
      have f2 := hB3.frozen 2
      have g0 := hA3.frozen 0
      have g1 := hA3.frozen 1
      have g2 := hA3.frozen 2
      generalize ((gar n).NF (0, x.2)).1 = pw at *
      have hB4 := (hB3.set 1 (.int .i64 (x.1 + pw)))
      have hB5 := hB4.set 2 (.slice qa qn qc)
      go_wp2_with fail
      have hA5 := (((((hA3.other (a := ⟨w.heap.size + 1, 1, none⟩) (by simp) (.int .i64 (x.1 + pw))).other (a := ⟨w.heap.size + 1, 2, none⟩) (by simp) (.slice qa qn qc))).set 0 (.int .i64 (n : Int))).set 1 (.int .i64 (x.1 + pw))).set 2 (.slice qa qn qc)
      have a0 := hA5.cell 0 rfl
      have a1 := hA5.cell 1 rfl
      have a2 := hA5.cell 2 rfl
      have hq2 := ((((hq.set_block (g := w.heap.size + 1) (by omega) 1 (.int .i64 (x.1 + pw))).set_block (g := w.heap.size + 1) (by omega) 2 (.slice qa qn qc)).set_block (g := w.heap.size) (by omega) 0 (.int .i64 (n : Int))).set_block (g := w.heap.size) (by omega) 1 (.int .i64 (x.1 + pw))).set_block (g := w.heap.size) (by omega) 2 (.slice qa qn qc)
      have hr2 := ((((hqr.set_block (g := w.heap.size + 1) (by omega) 1 (.int .i64 (x.1 + pw))).set_block (g := w.heap.size + 1) (by omega) 2 (.slice qa qn qc)).set_block (g := w.heap.size) (by omega) 0 (.int .i64 (n : Int))).set_block (g := w.heap.size) (by omega) 1 (.int .i64 (x.1 + pw))).set_block (g := w.heap.size) (by omega) 2 (.slice qa qn qc)
      refine bodyPost_ret (v := .agg #[.int .i64 (n : Int), .int .i64 (x.1 + pw), .slice qa qn qc]) (by simp [a0, a1, a2, results, Try.results102, go_sem]) rfl ⟨_, us2, by rw [hnf.out], hq2.mono (by omega), by rw [hnf.out]; exact hr2.lower (by omega), ?_⟩
      exact (((((hb'.out.trans (hs3.mono (by omega))).setCell (by simp) _).setCell (by simp) _).setCell (by simp) _).setCell (by simp) _).setCell (by simp) _


end Go.Proofs.Ytmeccemnmkobbaa
