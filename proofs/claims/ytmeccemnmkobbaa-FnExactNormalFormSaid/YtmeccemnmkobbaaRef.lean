/- Contracts: the factors of a normal form that the program works on in place. -/
import Derived.Test.YtmeccemnmkobbaaRee
namespace Go.Proofs.Ytmeccemnmkobbaa
open Go.RowKit
open Pm

/-- the call's own slice o of the call's own rows, each in a block of its own: a list of permutations -/
structure NB {n : Nat} (w : World) (B : Nat) (o : Value) (us : List Value) (L : List (Pm n)) : Prop where
  own : Own w B 32 o us
  len : us.length = L.length
  row : ∀ i, i < L.length → Own w B 2 (vat us i) (ints (pat L i).1)
  apart : ∀ i j, i ≠ j → i < L.length → j < L.length → Apart (vat us i) (vat us j)
  outer : ∀ i, i < L.length → Apart (vat us i) o
theorem NB.below {n : Nat} {w w' : World} {B : Nat} {o : Value} {us : List Value} {L : List (Pm n)} (h : NB w B o us L) (hb : Below w.heap.size w w') : NB w' B o us L :=
  ⟨h.own.below hb, h.len, fun i hi => (h.row i hi).below hb, h.apart, h.outer⟩
theorem NB.set_block {n : Nat} {w : World} {B : Nat} {o : Value} {us : List Value} {L : List (Pm n)} (h : NB w B o us L) {g : Nat} (hg : g < B) (i : Nat) (x : Value) : NB (w.setCell ⟨g, i, none⟩ x) B o us L :=
  ⟨h.own.set_block hg i x, h.len, fun j hj => (h.row j hj).set_block hg i x, h.apart, h.outer⟩
theorem NB.lower {n : Nat} {w : World} {B B' : Nat} {o : Value} {us : List Value} {L : List (Pm n)} (h : NB w B o us L) (hB : B' ≤ B) : NB w B' o us L := ⟨h.own.mono hB, h.len, fun i hi => (h.row i hi).mono hB, h.apart, h.outer⟩
theorem NB.nil (n : Nat) (w : World) (B : Nat) : NB (n := n) w B (.slice none 0 0) [] [] := ⟨Own.nilv _ _ _, rfl, fun i hi => absurd hi (by simp), fun i j _ hi => absurd hi (by simp), fun i hi => absurd hi (by simp)⟩
theorem pat_set {n : Nat} {L : List (Pm n)} {i : Nat} (h : i < L.length) (p : Pm n) (j : Nat) : pat (L.set i p) j = if i = j then p else pat L j := by
  unfold pat; rw [List.getElem?_set]
  by_cases e : i = j
  · subst e; simp [h]
  · simp [e]
/-- a row is replaced by a new one -/
theorem NB.setRow {n : Nat} {w w' : World} {B : Nat} {o : Value} {us : List Value} {L : List (Pm n)} (h : NB w B o us L) (hb : Below w.heap.size w w') (hB : B ≤ w.heap.size) {i : Nat} (hi : i < L.length) {u : Value} {p : Pm n} (hu : Own w' w.heap.size 2 u (ints p.1)) :
    NB (w'.setCell (adr o i) u) B o (us.set i u) (L.set i p) ∧ Below B w (w'.setCell (adr o i) u) := by
  have hiv : i < us.length := by have := h.len; omega
  have ho := h.own.below hb
  have hfw := h.own.adr_blk hiv
  have hapu : Apart u o := apart_new' h.own hu
  have hkeep : ∀ {B' : Nat} {e : TypeId} {v : Value} {xs : List Value}, Own w' B' e v xs → Apart v o → Own (w'.setCell (adr o i) u) B' e v xs := fun hr ha =>
    hr.keep fun k hk _ => Below.heap_setCell _ _ _ _ (fun e => ha k hk (by rw [e]; exact hfw.1.symm))
  refine ⟨⟨ho.set hiv u, by simpa using h.len, fun j hj => ?_, fun j k hjk hj hk => ?_, fun j hj => ?_⟩, (hb.mono hB).setCell hfw.2.1 u⟩
  · rw [List.length_set] at hj
    rw [vat_set hiv, pat_set hi]
    by_cases e : i = j
    · rw [if_pos e, if_pos e]; exact (hkeep hu hapu).mono hB
    · rw [if_neg e, if_neg e]; exact hkeep ((h.row j hj).below hb) (h.outer j hj)
  · rw [List.length_set] at hj hk
    rw [vat_set hiv, vat_set hiv]
    by_cases e : i = j
    · rw [if_pos e, if_neg (fun e2 => hjk (e.symm.trans e2))]
      exact apart_new' (h.row k hk) hu
    · rw [if_neg e]
      by_cases e2 : i = k
      · rw [if_pos e2]; exact apart_new (h.row j hj) hu
      · rw [if_neg e2]; exact h.apart j k hjk hj hk
  · rw [List.length_set] at hj
    rw [vat_set hiv]
    by_cases e : i = j
    · rw [if_pos e]; exact hapu
    · rw [if_neg e]; exact h.outer j hj
/-- two neighbours change in place -/
theorem NB.gr2 {n : Nat} {w w' : World} {B : Nat} {o : Value} {us : List Value} {L : List (Pm n)} (h : NB w B o us L) (hB : B ≤ w.heap.size) {i : Nat} (hi : i + 1 < L.length) (hg : Gr2 w w' (vat us i) (vat us (i + 1))) {p q : Pm n}
    (hp : Own w' B 2 (vat us i) (ints p.1)) (hq : Own w' B 2 (vat us (i + 1)) (ints q.1)) : NB w' B o us (mv L i p q) ∧ Below B w w' := by
  have hkeep : ∀ {B' : Nat} {e : TypeId} {v : Value} {xs : List Value}, Own w B' e v xs → Apart (vat us i) v → Apart (vat us (i + 1)) v → Own w' B' e v xs := fun {B' e v xs} hr ha hb =>
    hr.keep fun k hk hlt => hg.block k hlt (fun e => ha k e hk.symm) (fun e => hb k e hk.symm)
  refine ⟨⟨hkeep h.own (h.outer i (by omega)) (h.outer (i + 1) hi), by simpa using h.len, fun j hj => ?_, fun j k hjk hj hk => h.apart j k hjk (by simpa using hj) (by simpa using hk), fun j hj => h.outer j (by simpa using hj)⟩, ⟨hg.os, hg.tape, hg.output, hg.size, fun k hk => ?_⟩⟩
  · rw [length_mv] at hj
    rw [pat_mv hi]
    by_cases e : j = i
    · rw [if_pos e, e]; exact hp
    · rw [if_neg e]
      by_cases e2 : j = i + 1
      · rw [if_pos e2, e2]; exact hq
      · rw [if_neg e2]; exact hkeep (h.row j hj) (h.apart i j (fun x => e x.symm) (by omega) hj) (h.apart (i + 1) j (fun x => e2 x.symm) hi hj)
  · by_cases h0 : k < w.heap.size
    · exact hg.block k h0 (fun e => by have := (h.row i (by omega)).blk_lt e; omega) (fun e => by have := (h.row (i + 1) hi).blk_lt e; omega)
    · omega


theorem own_lit {w : World} {B : Nat} {e : TypeId} {v : Value} {xs : List Value} (h : Own w B e v xs) : ∃ a n c, v = .slice a n c := by
  obtain ⟨a, c, e⟩ := h.form3'
  exact ⟨a, _, c, e⟩
theorem letp_val {n m : Nat} (h : m < n) (h0 : 0 < m) : ((idn n).set (m - 1) (m : Int)).set m ((m : Int) - 1) = (sg n m h).1 := by
  have e := front_val (one n) h h0
  have e2 : mul (sg n m h) (one n) = sg n m h := (gar n).mul_one _
  rw [e2, ← idn_val] at e
  rw [← e]
  unfold swapAt
  rw [show m - 1 + 1 = m by omega, nth_idn h, nth_idn (show m - 1 < n by omega)]
  congr 1; omega

set_option maxRecDepth 100000 in
set_option maxHeartbeats 2000000 in
theorem letp_impl {n m : Nat} (h : m < n) (h0 : 0 < m) (hn : n ≤ 12) (w : World) :
    Calls Try.prog 120 #[.int .i64 (n : Int), .int .i64 (m : Int)] w fun e w' => ∃ u, e = .returned u ∧ Own w' w.heap.size 2 u (ints (sg n m h).1) ∧ Below w.heap.size w w' := by
  go_enter Try.func120, Try.ntmps120
  go_wp2_with fail
  refine (idn_impl (n : Int) _ (by omega) (by omega)).mono ?_
  rintro e w1 ⟨u, rfl, hu, hs⟩
  rw [Int.toNat_natCast] at hu
  have hia := hu.reads.idx 32 sliceI sizeI .i64 ((m : Int) - 1) (by omega) (by simp; omega)
  have hib := hu.reads.idx 32 sliceI sizeI .i64 (m : Int) (by omega) (by simp; omega)
  rw [show ((m : Int) - 1).toNat = m - 1 by omega] at hia
  simp only [Int.toNat_natCast] at hib
  have ca := hu.reads.cell (m - 1) _ (ints_at (by simp; omega))
  have cb := hu.reads.cell m _ (ints_at (by simp; omega))
  have fa := hu.frozen (i := m - 1) (by simp; omega)
  have fb := hu.frozen (i := m) (by simp; omega)
  have aa := hu.adr_blk (i := m - 1) (by simp; omega)
  have ab := hu.adr_blk (i := m) (by simp; omega)
  have hne := hu.adr_ne (i := m - 1) (j := m) (by simp; omega) (by omega)
  have hne2 := hu.adr_ne (i := m) (j := m - 1) (by simp; omega) (by omega)
  have hst := (hu.set (i := m - 1) (by simp; omega) (.int .i64 (m : Int))).set (i := m) (by simp; omega) (.int .i64 ((m : Int) - 1))
  rw [ints_set, ints_set, letp_val h h0] at hst
  have hb := (hs.setCell aa.2.1 (.int .i64 (m : Int))).setCell ab.2.1 (.int .i64 ((m : Int) - 1))
  replace hst := hid hst
  replace hb := hid hb
  clear hs hu
  go_wp2_with fail
  go_ret
  exact ⟨_, rfl, hst.out, hb.out⟩

theorem flip_step {n : Nat} {L : List (Pm n)} {j : Nat} (f : Pm n → Pm n) (h : j < L.length) : ((L.take j).map f ++ L.drop j).set j (f (pat L j)) = (L.take (j + 1)).map f ++ L.drop (j + 1) := by
  have h1 : ((L.take j).map f).length = j := by simp; omega
  rw [List.set_append_right _ _ (by omega), h1, Nat.sub_self, List.drop_eq_getElem_cons h, List.set_cons_zero, take_pat h, List.map_append, List.append_assoc]
  rfl
theorem pat_mix {n : Nat} {L : List (Pm n)} {j : Nat} (f : Pm n → Pm n) (h : j < L.length) : pat ((L.take j).map f ++ L.drop j) j = pat L j := by
  have h1 : ((L.take j).map f).length = j := by simp; omega
  unfold pat
  rw [List.getElem?_append_right (by omega), h1, Nat.sub_self, List.getElem?_drop, Nat.add_zero]

set_option maxRecDepth 100000 in
set_option maxHeartbeats 4000000 in
theorem flipAll_impl {n : Nat} (g : Nat) (pw : Int) (o : Value) (us : List Value) (L : List (Pm n)) (w : World) (B : Nat) (hB : B ≤ w.heap.size) (hgB : g < B) (hX : Bx w g [.int .i64 (n : Int), .int .i64 pw, o]) (h : NB w B o us L) (hn : n ≤ 12) :
    Calls Try.prog 121 #[.pointer (some ⟨g, 0, none⟩)] w fun e w' => ∃ us', e = .returned (.tuple #[]) ∧ NB w' B o us' (L.map (gar n).tau) ∧ Bx w' g [.int .i64 (n : Int), .int .i64 pw, o] ∧ Below B w w' ∧ Gr2 w w' o o := by
  have hlen := h.own.reads.len (P := Try.prog) 22 3 ⟨_, sliceII⟩
  have hsm := h.own.reads.small
  rw [h.len] at hlen hsm
  have A2 := hX.cell 2 rfl
  go_enter Try.func121, Try.ntmps121
  go_wp2_with fail
  clear A2
  go_loopw [2, 3, 9] (fun _ _ i wr => ∃ (j : Nat) (us : List Value), j ≤ L.length ∧ i = .int .i64 j ∧ NB wr B o us ((L.take j).map (gar n).tau ++ L.drop j) ∧ Bx wr g [.int .i64 (n : Int), .int .i64 pw, o] ∧ Below B w wr ∧ Gr2 w wr o o) (fun _ _ i _ => L.length - (intOf i).toNat)
  case atStart => exact ⟨0, us, by omega, rfl, by simpa using h, hX, Below.refl _ _, Gr2.refl _ _ _⟩
  case round =>
    clear h hX us
    obtain ⟨j, us, hj, rfl, hN, hX, hb, hg2⟩ := hrel
    replace hg2 := hid hg2
    have hll : ((L.take j).map (gar n).tau ++ L.drop j).length = L.length := by simp; omega
    have hul := hN.len
    rw [hll] at hul
    have hBw : B ≤ wr.heap.size := by have := hb.size; omega
    by_cases hlt : j < L.length
    · have hi := hN.own.reads.idx 22 sliceII sizeSI .i64 j (by omega) (by omega)
      simp only [Int.toNat_natCast] at hi
      have hc := hN.own.reads.cell j _ (vat_of (by omega))
      have hrow := (hN.row j (by omega)).reads
      rw [pat_mix _ hlt] at hrow
      have hfs := hid (flip_step (gar n).tau hlt)
      generalize pat L j = p at *
      have hF := hid (flip_impl _ _ wr.drew (hrow.drewN 1) (by rw [p.len]; omega) (Pm.small p))
      rw [flip_val] at hF
      have hK := hid (fun (w' : World) (hw : Below wr.heap.size wr w') => (⟨(hX.below hw).cell 2 rfl, (hN.own.below hw).reads.cell j _ (vat_of (by omega)), (hN.own.below hw).frozen (i := j) (by omega)⟩ : w'.cell? ⟨g, 2, none⟩ = some o ∧ w'.cell? (adr o j) = some (vat us j) ∧ w'.frozen? (adr o j) = false))
      have hS := hid (fun (w' : World) (u : Value) (p : Pm n) (hw : Below wr.heap.size wr w') (hu : Own w' wr.heap.size 2 u (ints p.1)) => hN.setRow hw hBw (i := j) (by omega) hu)
      have hX' := hid hX
      have hob := hid ((hN.own.adr_blk (i := j) (by omega)).1)
      have hog := hid ((hN.own.adr_blk (i := j) (by omega)).2.1)
      have hneg : adr o j ≠ (⟨g, 2, none⟩ : Addr) := fun e => by have := hog.out; rw [e] at this; simp at this; omega
      have hb' := hid hb
      have hN' := hid hN
      have hdz : wr.drew.heap.size = wr.heap.size := rfl
      clear hN hX hb hrow hul hll
      go_wp2_with fail
      go_region_held3 (fun w' => w'.cell? ⟨g, 2, none⟩ = some o) (first | exact (hK.out _ (Below.refl _ _).drew).1 | exact (hK.out _ hbS).1 | exact (World.cell?_setCell_other _ _ _ _ hneg).trans (hK.out _ hbS).1) ((first | (go_at_call 76; refine hF.out.mono ?_; rintro e w3 ⟨x, rfl, hx, hs3⟩; obtain ⟨xa, xn, xc, rfl⟩ := own_lit hx; have hbS : Below wr.heap.size wr w3 := (Below.refl _ wr).drew.trans hs3; obtain ⟨-, hc3, hf3⟩ := hK.out _ hbS)))
      all_goals
        have hR := hid (hS.out w3 _ ((gar n).tau p) hbS hx)
        go_wp2_with fail
        go_roundw
        case rel => exact ⟨j + 1, us.set j _, by omega, by go_num, by rw [← hfs.out]; exact hR.out.1, hX'.out.belowB hR.out.2 hgB, hb'.out.trans hR.out.2, hg2.out.trans ((Gr2.ofBelow o o hbS).set (.inl hob.out) _)⟩
        case measure => simp [intOf]; omega
    · obtain rfl : j = L.length := by omega
      rw [List.take_of_length_le (Nat.le_refl _), List.drop_of_length_le (Nat.le_refl _), List.append_nil] at hN
      go_wp2_with fail
      exact bodyPost_end (v := .tuple #[]) (by simp [results, Try.results121, go_sem]) rfl ⟨us, rfl, hN, hX, hb, hg2.out⟩


end Go.Proofs.Ytmeccemnmkobbaa
