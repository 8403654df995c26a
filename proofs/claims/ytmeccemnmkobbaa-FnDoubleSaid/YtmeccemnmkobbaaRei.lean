/- Contracts: a normal form is multiplied by a permutation, in the program. -/
import Derived.Test.YtmeccemnmkobbaaRed
import Derived.Test.YtmeccemnmkobbaaSli
import Derived.Test.YtmeccemnmkobbaaDel
namespace Go.Proofs.Ytmeccemnmkobbaa
open Go.RowKit
open Pm

/-- of old memory the blocks of a and b alone may have turned -/
structure Gr2 (w w' : World) (a b : Value) : Prop where
  os : w'.os = w.os
  tape : w'.tape = w.tape
  output : w'.output = w.output
  size : w.heap.size ≤ w'.heap.size
  block : ∀ k, k < w.heap.size → blk a ≠ some k → blk b ≠ some k → w'.heap[k]? = w.heap[k]?
theorem Gr2.refl (w : World) (a b : Value) : Gr2 w w a b := ⟨rfl, rfl, rfl, Nat.le_refl _, fun _ _ _ _ => rfl⟩
theorem Gr2.trans {w w' w'' : World} {a b : Value} (h : Gr2 w w' a b) (k : Gr2 w' w'' a b) : Gr2 w w'' a b :=
  ⟨k.os.trans h.os, k.tape.trans h.tape, k.output.trans h.output, Nat.le_trans h.size k.size, fun i hi h1 h2 => (k.block i (Nat.lt_of_lt_of_le hi h.size) h1 h2).trans (h.block i hi h1 h2)⟩
theorem Gr2.ofBelow {w w' : World} (a b : Value) (h : Below w.heap.size w w') : Gr2 w w' a b := ⟨h.os, h.tape, h.output, h.size, fun k hk _ _ => h.block k hk⟩
theorem Gr2.set {w w' : World} {a b : Value} (h : Gr2 w w' a b) {p : Addr} (hp : blk a = some p.block ∨ blk b = some p.block) (u : Value) : Gr2 w (w'.setCell p u) a b :=
  ⟨h.os, h.tape, h.output, by simpa [World.setCell] using h.size, fun k hk h1 h2 => (Below.heap_setCell _ _ _ _ (fun e => by
    subst e
    rcases hp with hp | hp
    · exact h1 hp
    · exact h2 hp)).trans (h.block k hk h1 h2)⟩
theorem Gr2.drew {w w' : World} {a b : Value} (h : Gr2 w w' a b) : Gr2 w w'.drew a b := ⟨h.os, h.tape, h.output, h.size, h.block⟩
theorem nth_mix {l m : List Int} {j : Nat} (hm : m.length = l.length) (hj : j < l.length) : nth (m.take j ++ l.drop j) j = nth l j := by
  have h1 : (m.take j).length = j := by simp; omega
  unfold nth
  rw [List.getElem?_append_right (by omega), h1, Nat.sub_self, List.getElem?_drop, Nat.add_zero]
theorem Own.set_apart {w : World} {B B' : Nat} {e e' : TypeId} {a b : Value} {xs ys : List Value} (h : Own w B e b ys) (ha : Own w B' e' a xs) (hap : Apart a b) {i : Nat} (hi : i < xs.length) (u : Value) : Own (w.setCell (adr a i) u) B e b ys :=
  h.keep fun k hk _ => Below.heap_setCell _ _ _ _ (fun e => hap k (by rw [(ha.adr_blk hi).1, e]) hk.symm)

set_option maxRecDepth 100000 in
set_option maxHeartbeats 8000000 in
theorem weigh_impl {n : Nat} (a b : Value) (p q : Pm n) (w : World) (B : Nat) (hB : B ≤ w.heap.size) (ha : Own w B 2 a (ints p.1)) (hb : Own w B 2 b (ints q.1)) (hap : Apart a b) (hn : n ≤ 12) :
    Calls Try.prog 136 #[a, b] w fun e w' => ∃ (p' q' : Pm n) (t : Nat), e = .returned (.bool (decide (0 < t))) ∧ Own w' B 2 a (ints p'.1) ∧ Own w' B 2 b (ints q'.1) ∧ Gr2 w w' a b ∧ (gar n).Eqv [p, q] [p', q'] ∧ ni p' = ni p + t ∧ ni q' = ni q - t ∧ (t = 0 → p' = p ∧ q' = q) ∧ extraF p'.1 q'.1 = 0 := by
  go_enter Try.func136, Try.ntmps136
  go_wp2_with fail
  go_loopg [5] (ni q).toNat (fun g any wr => ∃ (p' q' : Pm n) (t : Nat), any = .bool (decide (0 < t)) ∧ Own wr B 2 a (ints p'.1) ∧ Own wr B 2 b (ints q'.1) ∧ Gr2 w wr a b ∧ (gar n).Eqv [p, q] [p', q'] ∧ ni p' = ni p + t ∧ ni q' = ni q - t ∧ (t = 0 → p' = p ∧ q' = q) ∧ (ni q').toNat ≤ g)
  case atStart => exact ⟨p, q, 0, rfl, ha, hb, Gr2.refl _ _ _, (gar n).eqv_refl _, by omega, by omega, fun _ => ⟨rfl, rfl⟩, Nat.le_refl _⟩
  case round =>
    clear ha hb
    obtain ⟨p', q', t, rfl, ha, hb, hg, hE, hp1, hq1, ht, hgk⟩ := hrel
    have hE' := hid hE
    have hp1' := hid hp1
    have hq1' := hid hq1
    have ht' := hid ht
    have hgk' := hid hgk
    clear hE hp1 hq1 ht hgk
    go_wp2_with fail
    refine (missing_impl _ _ _ _ _ ha.reads hb.reads (by rw [Pm.len]; omega) (by rw [Pm.len]; omega) (Pm.small _)).mono ?_
    rintro e w1 ⟨rfl, hs1⟩
    have hg1 := hid (hg.trans (Gr2.ofBelow a b hs1))
    have hB1 : B ≤ w1.heap.size := by have := hg.size; have := hs1.size; omega
    replace ha := ha.below hs1
    replace hb := hb.below hs1
    clear hg hs1
    by_cases hx : extraF p'.1 q'.1 = 0
    · rw [hx]
      have hx := hid hx
      go_wp2_with fail
      go_ret
      exact ⟨p', q', t, rfl, ha, hb, hg1.out, hE'.out, hp1'.out, hq1'.out, ht'.out, hx.out⟩
    · obtain ⟨m, hmn, hm0, hke, hle, hrd⟩ := extra_ne p' q' hx
      have hEq := hid ((gar n).eqv_trans hE'.out (move_eqv p' q' hmn hle hrd))
      have hni := hid (⟨ni_back p' hmn hm0 hrd, ni_front q' hmn hm0 hle⟩ : _ ∧ _)
      have hbv := hid (back_val p' hmn hm0)
      have hfv := hid (front_val q' hmn hm0)
      have hqn := ni_nonneg (mul (sg n m hmn) q')
      rw [hke]
      have hm1 : ((m : Int) == 0) = false := by rw [beq_eq_false_iff_ne]; omega
      have hpl := p'.len
      have hql := q'.len
      have hlen := ha.reads.len (P := Try.prog) 32 3 ⟨_, sliceI⟩
      simp only [length_ints, hpl] at hlen
      generalize hP : mul p' (sg n m hmn) = P' at *
      generalize hQ : mul (sg n m hmn) q' = Q' at *
      clear hke hle hrd hx hP hQ
      replace hb := hid hb
      go_wp2_with fail
      go_loopw [7, 8, 17] (fun _ _ i wr => ∃ j : Nat, j ≤ n ∧ i = .int .i64 j ∧ Own wr B 2 a (ints ((p'.1.map (swv (m : Int))).take j ++ p'.1.drop j)) ∧ Own wr B 2 b (ints q'.1) ∧ Gr2 w1 wr a b) (fun _ _ i _ => n - (intOf i).toNat)
      case atStart => exact ⟨0, by omega, rfl, by simpa using ha, hb.out, Gr2.refl _ _ _⟩
      case round =>
        clear ha hb
        obtain ⟨j, hj, rfl, ha, hb, hg⟩ := hrel
        have hll : ((p'.1.map (swv (m : Int))).take j ++ p'.1.drop j).length = n := by simp [hpl]; omega
        by_cases hlt : j < n
        case pos =>
          have hi := ha.reads.idx 32 sliceI sizeI .i64 j (by omega) (by simp [hpl]; omega)
          simp only [Int.toNat_natCast] at hi
          have hc := ha.reads.cell j _ (ints_at (by omega))
          have hf := ha.frozen (i := j) (by simp [hpl]; omega)
          have hab := ha.adr_blk (i := j) (by simp [hpl]; omega)
          rw [nth_mix (by simp) (by omega)] at hc
          have hst := ha.set (i := j) (by simp [hpl]; omega) (.int .i64 (swv (m : Int) (nth p'.1 j)))
          rw [ints_set, swv_step (by omega)] at hst
          have hbs := hb.set_apart ha hap (i := j) (by simp [hpl]; omega) (.int .i64 (swv (m : Int) (nth p'.1 j)))
          have hgs := hg.set (p := adr a j) (.inl hab.1) (.int .i64 (swv (m : Int) (nth p'.1 j)))
          by_cases e1 : nth p'.1 j = (m : Int) - 1
          · have es : swv (m : Int) (nth p'.1 j) = m := by unfold swv; rw [if_pos e1]
            rw [es] at hst hbs hgs
            rw [e1] at hc
            have n2 : ((m : Int) - 1 == (m : Int) - 1) = true := by simp
            have hst' := hid hst
            have hbs' := hid hbs
            have hgs' := hid hgs
            clear hst hbs hgs es e1 hll ha hb hg hab
            go_wp2_with fail
            go_roundw
            case rel => exact ⟨j + 1, by omega, by go_num, hst'.out, hbs'.out, hgs'.out⟩
            case measure => simp [intOf]; omega
          · by_cases e2 : nth p'.1 j = (m : Int)
            · have es : swv (m : Int) (nth p'.1 j) = m - 1 := by unfold swv; rw [if_neg e1, if_pos e2]
              rw [es] at hst hbs hgs
              rw [e2] at hc
              have n1 : ((m : Int) == (m : Int) - 1) = false := by rw [beq_eq_false_iff_ne]; omega
              have n2 : ((m : Int) == (m : Int)) = true := by simp
              have hst' := hid hst
              have hbs' := hid hbs
              have hgs' := hid hgs
              clear hst hbs hgs es e1 e2 hll ha hb hg hab
              go_wp2_with fail
              go_roundw
              case rel => exact ⟨j + 1, by omega, by go_num, hst'.out, hbs'.out, hgs'.out⟩
              case measure => simp [intOf]; omega
            · have hk := hid (swv_keep (l := p'.1) (k := (m : Int)) (by omega) e1 e2)
              have n1 : (nth p'.1 j == (m : Int) - 1) = false := by rw [beq_eq_false_iff_ne]; exact e1
              have n2 : (nth p'.1 j == (m : Int)) = false := by rw [beq_eq_false_iff_ne]; exact e2
              have ha' := hid ha
              have hb' := hid hb
              have hg' := hid hg
              clear hst hbs hgs e1 e2 hll ha hb hg hab
              go_wp2_with fail
              go_roundw
              case rel => exact ⟨j + 1, by omega, by go_num, by rw [hk.out]; exact ha'.out, hb'.out, hg'.out⟩
              case measure => simp [intOf]; omega
        case neg =>
          obtain rfl : j = n := by omega
          rw [List.take_of_length_le (by simp [hpl]), List.drop_of_length_le (by omega), List.append_nil, hbv.out] at ha
          have hia := hb.reads.idx 32 sliceI sizeI .i64 ((m : Int) - 1) (by omega) (by simp; omega)
          have hib := hb.reads.idx 32 sliceI sizeI .i64 (m : Int) (by omega) (by simp; omega)
          rw [show ((m : Int) - 1).toNat = m - 1 by omega] at hia
          simp only [Int.toNat_natCast] at hib
          have ca := hb.reads.cell (m - 1) _ (ints_at (by omega))
          have cb := hb.reads.cell m _ (ints_at (by omega))
          have fa := hb.frozen (i := m - 1) (by simp; omega)
          have fb := hb.frozen (i := m) (by simp; omega)
          have aa := (hb.adr_blk (i := m - 1) (by simp; omega))
          have ab := (hb.adr_blk (i := m) (by simp; omega))
          have hne := hb.adr_ne (i := m - 1) (j := m) (by simp; omega) (by omega)
          have hne2 := hb.adr_ne (i := m) (j := m - 1) (by simp; omega) (by omega)
          have hb1 := hb.set (i := m - 1) (by simp; omega) (.int .i64 (nth q'.1 m))
          have hst := (hb1.set (i := m) (by simp; omega) (.int .i64 (nth q'.1 (m - 1)))).drew
          rw [ints_set, ints_set] at hst
          have hsw : ((q'.1.set (m - 1) (nth q'.1 m)).set m (nth q'.1 (m - 1))) = Q'.1 := by rw [← hfv.out]; unfold swapAt; rw [show m - 1 + 1 = m by omega]
          rw [hsw] at hst
          have ha2 := ((ha.set_apart hb (fun k hk e => hap k e.symm hk.symm) (i := m - 1) (by simp; omega) (.int .i64 (nth q'.1 m))).set_apart hb1 (fun k hk e => hap k e.symm hk.symm) (i := m) (by simp; omega) (.int .i64 (nth q'.1 (m - 1)))).drew
          have hg2 := (((hg1.out.trans hg).set (p := adr b (m - 1)) (.inr aa.1) (.int .i64 (nth q'.1 m))).set (p := adr b m) (.inr ab.1) (.int .i64 (nth q'.1 (m - 1)))).drew
          replace hst := hid hst
          replace ha2 := hid ha2
          replace hg2 := hid hg2
          clear hb1 ha hb hg hsw hll
          go_wp2_with fail
          go_region
          go_wp2_with fail
          go_roundg (ni Q').toNat
          case rel => exact ⟨P', Q', t + 1, by simp, ha2.out, hst.out, hg2.out, hEq.out, by have := hp1'.out; have := hni.out; omega, by have := hq1'.out; have := hni.out; omega, by omega, Nat.le_refl _⟩
          case measure => have := hgk'.out; have := hni.out; have := ni_nonneg q'; omega


end Go.Proofs.Ytmeccemnmkobbaa

namespace Go.Proofs.Ytmeccemnmkobbaa
open Go.RowKit
open Pm

/-- the call's own slice o of the call's own rows, each in a block of its own: a list of permutations -/
structure NB {n : Nat} (w : World) (B : Nat) (o : Value) (us : List Value) (L : List (Pm n)) : Prop where
  own : Own w B 32 o us
  len : us.length = L.length
  row : ∀ i, i < L.length → Own w B 2 (vat us i) (ints (pat L i).1)
  apart : ∀ i j, i ≠ j → i < L.length → j < L.length → Apart (vat us i) (vat us j)
  outer : ∀ i, i < L.length → Apart (vat us i) o
theorem NB.below {n : Nat} {w w' : World} {B : Nat} {o : Value} {us : List Value} {L : List (Pm n)} (h : NB w B o us L) (hb : Below w.heap.size w w') : NB w' B o us L :=
  ⟨h.own.below hb, h.len, fun i hi => (h.row i hi).below hb, h.apart, h.outer⟩
theorem NB.set_block {n : Nat} {w : World} {B : Nat} {o : Value} {us : List Value} {L : List (Pm n)} (h : NB w B o us L) {g : Nat} (hg : g < B) (i : Nat) (x : Value) : NB (w.setCell ⟨g, i, none⟩ x) B o us L :=
  ⟨h.own.set_block hg i x, h.len, fun j hj => (h.row j hj).set_block hg i x, h.apart, h.outer⟩
theorem NB.lower {n : Nat} {w : World} {B B' : Nat} {o : Value} {us : List Value} {L : List (Pm n)} (h : NB w B o us L) (hB : B' ≤ B) : NB w B' o us L := ⟨h.own.mono hB, h.len, fun i hi => (h.row i hi).mono hB, h.apart, h.outer⟩
theorem NB.nil (n : Nat) (w : World) (B : Nat) : NB (n := n) w B (.slice none 0 0) [] [] := ⟨Own.nilv _ _ _, rfl, fun i hi => absurd hi (by simp), fun i j _ hi => absurd hi (by simp), fun i hi => absurd hi (by simp)⟩
theorem pat_set {n : Nat} {L : List (Pm n)} {i : Nat} (h : i < L.length) (p : Pm n) (j : Nat) : pat (L.set i p) j = if i = j then p else pat L j := by
  unfold pat; rw [List.getElem?_set]
  by_cases e : i = j
  · subst e; simp [h]
  · simp [e]
/-- a row is replaced by a new one -/
theorem NB.setRow {n : Nat} {w w' : World} {B : Nat} {o : Value} {us : List Value} {L : List (Pm n)} (h : NB w B o us L) (hb : Below w.heap.size w w') (hB : B ≤ w.heap.size) {i : Nat} (hi : i < L.length) {u : Value} {p : Pm n} (hu : Own w' w.heap.size 2 u (ints p.1)) :
    NB (w'.setCell (adr o i) u) B o (us.set i u) (L.set i p) ∧ Below B w (w'.setCell (adr o i) u) := by
  have hiv : i < us.length := by have := h.len; omega
  have ho := h.own.below hb
  have hfw := h.own.adr_blk hiv
  have hapu : Apart u o := apart_new' h.own hu
  have hkeep : ∀ {B' : Nat} {e : TypeId} {v : Value} {xs : List Value}, Own w' B' e v xs → Apart v o → Own (w'.setCell (adr o i) u) B' e v xs := fun hr ha =>
    hr.keep fun k hk _ => Below.heap_setCell _ _ _ _ (fun e => ha k hk (by rw [e]; exact hfw.1.symm))
  refine ⟨⟨ho.set hiv u, by simpa using h.len, fun j hj => ?_, fun j k hjk hj hk => ?_, fun j hj => ?_⟩, (hb.mono hB).setCell hfw.2.1 u⟩
  · rw [List.length_set] at hj
    rw [vat_set hiv, pat_set hi]
    by_cases e : i = j
    · rw [if_pos e, if_pos e]; exact (hkeep hu hapu).mono hB
    · rw [if_neg e, if_neg e]; exact hkeep ((h.row j hj).below hb) (h.outer j hj)
  · rw [List.length_set] at hj hk
    rw [vat_set hiv, vat_set hiv]
    by_cases e : i = j
    · rw [if_pos e, if_neg (fun e2 => hjk (e.symm.trans e2))]
      exact apart_new' (h.row k hk) hu
    · rw [if_neg e]
      by_cases e2 : i = k
      · rw [if_pos e2]; exact apart_new (h.row j hj) hu
      · rw [if_neg e2]; exact h.apart j k hjk hj hk
  · rw [List.length_set] at hj
    rw [vat_set hiv]
    by_cases e : i = j
    · rw [if_pos e]; exact hapu
    · rw [if_neg e]; exact h.outer j hj
/-- two neighbours change in place -/
theorem NB.gr2 {n : Nat} {w w' : World} {B : Nat} {o : Value} {us : List Value} {L : List (Pm n)} (h : NB w B o us L) (hB : B ≤ w.heap.size) {i : Nat} (hi : i + 1 < L.length) (hg : Gr2 w w' (vat us i) (vat us (i + 1))) {p q : Pm n}
    (hp : Own w' B 2 (vat us i) (ints p.1)) (hq : Own w' B 2 (vat us (i + 1)) (ints q.1)) : NB w' B o us (mv L i p q) ∧ Below B w w' := by
  have hkeep : ∀ {B' : Nat} {e : TypeId} {v : Value} {xs : List Value}, Own w B' e v xs → Apart (vat us i) v → Apart (vat us (i + 1)) v → Own w' B' e v xs := fun {B' e v xs} hr ha hb =>
    hr.keep fun k hk hlt => hg.block k hlt (fun e => ha k e hk.symm) (fun e => hb k e hk.symm)
  refine ⟨⟨hkeep h.own (h.outer i (by omega)) (h.outer (i + 1) hi), by simpa using h.len, fun j hj => ?_, fun j k hjk hj hk => h.apart j k hjk (by simpa using hj) (by simpa using hk), fun j hj => h.outer j (by simpa using hj)⟩, ⟨hg.os, hg.tape, hg.output, hg.size, fun k hk => ?_⟩⟩
  · rw [length_mv] at hj
    rw [pat_mv hi]
    by_cases e : j = i
    · rw [if_pos e, e]; exact hp
    · rw [if_neg e]
      by_cases e2 : j = i + 1
      · rw [if_pos e2, e2]; exact hq
      · rw [if_neg e2]; exact hkeep (h.row j hj) (h.apart i j (fun x => e x.symm) (by omega) hj) (h.apart (i + 1) j (fun x => e2 x.symm) hi hj)
  · by_cases h0 : k < w.heap.size
    · exact hg.block k h0 (fun e => by have := (h.row i (by omega)).blk_lt e; omega) (fun e => by have := (h.row (i + 1) hi).blk_lt e; omega)
    · omega


theorem own_lit {w : World} {B : Nat} {e : TypeId} {v : Value} {xs : List Value} (h : Own w B e v xs) : ∃ a n c, v = .slice a n c := by
  obtain ⟨a, c, e⟩ := h.form3'
  exact ⟨a, _, c, e⟩
theorem letp_val {n m : Nat} (h : m < n) (h0 : 0 < m) : ((idn n).set (m - 1) (m : Int)).set m ((m : Int) - 1) = (sg n m h).1 := by
  have e := front_val (one n) h h0
  have e2 : mul (sg n m h) (one n) = sg n m h := (gar n).mul_one _
  rw [e2, ← idn_val] at e
  rw [← e]
  unfold swapAt
  rw [show m - 1 + 1 = m by omega, nth_idn h, nth_idn (show m - 1 < n by omega)]
  congr 1; omega

set_option maxRecDepth 100000 in
set_option maxHeartbeats 2000000 in
theorem letp_impl {n m : Nat} (h : m < n) (h0 : 0 < m) (hn : n ≤ 12) (w : World) :
    Calls Try.prog 120 #[.int .i64 (n : Int), .int .i64 (m : Int)] w fun e w' => ∃ u, e = .returned u ∧ Own w' w.heap.size 2 u (ints (sg n m h).1) ∧ Below w.heap.size w w' := by
  go_enter Try.func120, Try.ntmps120
  go_wp2_with fail
  refine (idn_impl (n : Int) _ (by omega) (by omega)).mono ?_
  rintro e w1 ⟨u, rfl, hu, hs⟩
  rw [Int.toNat_natCast] at hu
  have hia := hu.reads.idx 32 sliceI sizeI .i64 ((m : Int) - 1) (by omega) (by simp; omega)
  have hib := hu.reads.idx 32 sliceI sizeI .i64 (m : Int) (by omega) (by simp; omega)
  rw [show ((m : Int) - 1).toNat = m - 1 by omega] at hia
  simp only [Int.toNat_natCast] at hib
  have ca := hu.reads.cell (m - 1) _ (ints_at (by simp; omega))
  have cb := hu.reads.cell m _ (ints_at (by simp; omega))
  have fa := hu.frozen (i := m - 1) (by simp; omega)
  have fb := hu.frozen (i := m) (by simp; omega)
  have aa := hu.adr_blk (i := m - 1) (by simp; omega)
  have ab := hu.adr_blk (i := m) (by simp; omega)
  have hne := hu.adr_ne (i := m - 1) (j := m) (by simp; omega) (by omega)
  have hne2 := hu.adr_ne (i := m) (j := m - 1) (by simp; omega) (by omega)
  have hst := (hu.set (i := m - 1) (by simp; omega) (.int .i64 (m : Int))).set (i := m) (by simp; omega) (.int .i64 ((m : Int) - 1))
  rw [ints_set, ints_set, letp_val h h0] at hst
  have hb := (hs.setCell aa.2.1 (.int .i64 (m : Int))).setCell ab.2.1 (.int .i64 ((m : Int) - 1))
  replace hst := hid hst
  replace hb := hid hb
  clear hs hu
  go_wp2_with fail
  go_ret
  exact ⟨_, rfl, hst.out, hb.out⟩

theorem flip_step {n : Nat} {L : List (Pm n)} {j : Nat} (f : Pm n → Pm n) (h : j < L.length) : ((L.take j).map f ++ L.drop j).set j (f (pat L j)) = (L.take (j + 1)).map f ++ L.drop (j + 1) := by
  have h1 : ((L.take j).map f).length = j := by simp; omega
  rw [List.set_append_right _ _ (by omega), h1, Nat.sub_self, List.drop_eq_getElem_cons h, List.set_cons_zero, take_pat h, List.map_append, List.append_assoc]
  rfl
theorem pat_mix {n : Nat} {L : List (Pm n)} {j : Nat} (f : Pm n → Pm n) (h : j < L.length) : pat ((L.take j).map f ++ L.drop j) j = pat L j := by
  have h1 : ((L.take j).map f).length = j := by simp; omega
  unfold pat
  rw [List.getElem?_append_right (by omega), h1, Nat.sub_self, List.getElem?_drop, Nat.add_zero]

set_option maxRecDepth 100000 in
set_option maxHeartbeats 4000000 in
theorem flipAll_impl {n : Nat} (g : Nat) (pw : Int) (o : Value) (us : List Value) (L : List (Pm n)) (w : World) (B : Nat) (hB : B ≤ w.heap.size) (hgB : g < B) (hX : Bx w g [.int .i64 (n : Int), .int .i64 pw, o]) (h : NB w B o us L) (hn : n ≤ 12) :
    Calls Try.prog 121 #[.pointer (some ⟨g, 0, none⟩)] w fun e w' => ∃ us', e = .returned (.tuple #[]) ∧ NB w' B o us' (L.map (gar n).tau) ∧ Bx w' g [.int .i64 (n : Int), .int .i64 pw, o] ∧ Below B w w' ∧ Gr2 w w' o o := by
  have hlen := h.own.reads.len (P := Try.prog) 22 3 ⟨_, sliceII⟩
  have hsm := h.own.reads.small
  rw [h.len] at hlen hsm
  have A2 := hX.cell 2 rfl
  go_enter Try.func121, Try.ntmps121
  go_wp2_with fail
  clear A2
  go_loopw [2, 3, 9] (fun _ _ i wr => ∃ (j : Nat) (us : List Value), j ≤ L.length ∧ i = .int .i64 j ∧ NB wr B o us ((L.take j).map (gar n).tau ++ L.drop j) ∧ Bx wr g [.int .i64 (n : Int), .int .i64 pw, o] ∧ Below B w wr ∧ Gr2 w wr o o) (fun _ _ i _ => L.length - (intOf i).toNat)
  case atStart => exact ⟨0, us, by omega, rfl, by simpa using h, hX, Below.refl _ _, Gr2.refl _ _ _⟩
  case round =>
    clear h hX us
    obtain ⟨j, us, hj, rfl, hN, hX, hb, hg2⟩ := hrel
    replace hg2 := hid hg2
    have hll : ((L.take j).map (gar n).tau ++ L.drop j).length = L.length := by simp; omega
    have hul := hN.len
    rw [hll] at hul
    have hBw : B ≤ wr.heap.size := by have := hb.size; omega
    by_cases hlt : j < L.length
    · have hi := hN.own.reads.idx 22 sliceII sizeSI .i64 j (by omega) (by omega)
      simp only [Int.toNat_natCast] at hi
      have hc := hN.own.reads.cell j _ (vat_of (by omega))
      have hrow := (hN.row j (by omega)).reads
      rw [pat_mix _ hlt] at hrow
      have hfs := hid (flip_step (gar n).tau hlt)
      generalize pat L j = p at *
      have hF := hid (flip_impl _ _ wr.drew (hrow.drewN 1) (by rw [p.len]; omega) (Pm.small p))
      rw [flip_val] at hF
      have hK := hid (fun (w' : World) (hw : Below wr.heap.size wr w') => (⟨(hX.below hw).cell 2 rfl, (hN.own.below hw).reads.cell j _ (vat_of (by omega)), (hN.own.below hw).frozen (i := j) (by omega)⟩ : w'.cell? ⟨g, 2, none⟩ = some o ∧ w'.cell? (adr o j) = some (vat us j) ∧ w'.frozen? (adr o j) = false))
      have hS := hid (fun (w' : World) (u : Value) (p : Pm n) (hw : Below wr.heap.size wr w') (hu : Own w' wr.heap.size 2 u (ints p.1)) => hN.setRow hw hBw (i := j) (by omega) hu)
      have hX' := hid hX
      have hob := hid ((hN.own.adr_blk (i := j) (by omega)).1)
      have hog := hid ((hN.own.adr_blk (i := j) (by omega)).2.1)
      have hneg : adr o j ≠ (⟨g, 2, none⟩ : Addr) := fun e => by have := hog.out; rw [e] at this; simp at this; omega
      have hb' := hid hb
      have hN' := hid hN
      have hdz : wr.drew.heap.size = wr.heap.size := rfl
      clear hN hX hb hrow hul hll
      go_wp2_with fail
      go_region_held3 (fun w' => w'.cell? ⟨g, 2, none⟩ = some o) (first | exact (hK.out _ (Below.refl _ _).drew).1 | exact (hK.out _ hbS).1 | exact (World.cell?_setCell_other _ _ _ _ hneg).trans (hK.out _ hbS).1) ((first | (go_at_call 76; refine hF.out.mono ?_; rintro e w3 ⟨x, rfl, hx, hs3⟩; obtain ⟨xa, xn, xc, rfl⟩ := own_lit hx; have hbS : Below wr.heap.size wr w3 := (Below.refl _ wr).drew.trans hs3; obtain ⟨-, hc3, hf3⟩ := hK.out _ hbS)))
      all_goals
        have hR := hid (hS.out w3 _ ((gar n).tau p) hbS hx)
        go_wp2_with fail
        go_roundw
        case rel => exact ⟨j + 1, us.set j _, by omega, by go_num, by rw [← hfs.out]; exact hR.out.1, hX'.out.belowB hR.out.2 hgB, hb'.out.trans hR.out.2, hg2.out.trans ((Gr2.ofBelow o o hbS).set (.inl hob.out) _)⟩
        case measure => simp [intOf]; omega
    · obtain rfl : j = L.length := by omega
      rw [List.take_of_length_le (Nat.le_refl _), List.drop_of_length_le (Nat.le_refl _), List.append_nil] at hN
      go_wp2_with fail
      exact bodyPost_end (v := .tuple #[]) (by simp [results, Try.results121, go_sem]) rfl ⟨us, rfl, hN, hX, hb, hg2.out⟩


end Go.Proofs.Ytmeccemnmkobbaa

namespace Go.Proofs.Ytmeccemnmkobbaa
open Go.RowKit
open Pm

theorem blk_onwards {w : World} {B : Nat} {e : TypeId} {o : Value} {us : List Value} (h : Own w B e o us) (k : Nat) : blk (onwards o k) = blk o := by
  obtain ⟨a, c, ev, _⟩ := h.reads.form
  rw [onwards_part o us.length k ⟨a, c, ev⟩, blk_part]
theorem NB.tail {n : Nat} {w : World} {B : Nat} {o : Value} {us : List Value} {L : List (Pm n)} {p : Pm n} (h : NB w B o us (p :: L)) : NB w B (onwards o 1) (us.drop 1) L := by
  have hl := h.len
  have hv : ∀ i, vat (us.drop 1) i = vat us (i + 1) := fun i => by unfold vat; rw [List.getElem?_drop, Nat.add_comm]
  have hp : ∀ i, pat (p :: L) (i + 1) = pat L i := fun i => by simp [pat]
  have hlt : ∀ i, i < L.length → i + 1 < (p :: L).length := fun i hi => by simpa using hi
  refine ⟨h.own.onwards 1 (by rw [hl]; simp), by simp [hl], fun i hi => ?_, fun i j hij hi hj => ?_, fun i hi => ?_⟩
  · rw [hv, ← hp]; exact h.row (i + 1) (hlt i hi)
  · rw [hv, hv]; exact h.apart (i + 1) (j + 1) (by omega) (hlt i hi) (hlt j hj)
  · rw [hv]; exact (h.outer (i + 1) (hlt i hi)).of_blk (blk_onwards h.own 1)
theorem NB.init {n : Nat} {w : World} {B : Nat} {o : Value} {us : List Value} {L : List (Pm n)} {p : Pm n} (h : NB w B o us (L ++ [p])) : NB w B (upto o L.length) (us.take L.length) L := by
  have hl := h.len
  have hv : ∀ i, i < L.length → vat (us.take L.length) i = vat us i := fun i hi => by unfold vat; rw [List.getElem?_take, if_pos hi]
  have hp : ∀ i, i < L.length → pat (L ++ [p]) i = pat L i := fun i hi => by unfold pat; rw [List.getElem?_append_left hi]
  have hlt : ∀ i, i < L.length → i < (L ++ [p]).length := fun i hi => by simp; omega
  refine ⟨h.own.upto L.length (by rw [hl]; simp), by simp [hl], fun i hi => ?_, fun i j hij hi hj => ?_, fun i hi => ?_⟩
  · rw [hv i hi, ← hp i hi]; exact h.row i (hlt i hi)
  · rw [hv i hi, hv j hj]; exact h.apart i j hij (hlt i hi) (hlt j hj)
  · rw [hv i hi]; exact (h.outer i (hlt i hi)).of_blk (blk_upto o _)

set_option maxRecDepth 100000 in
set_option maxHeartbeats 8000000 in
theorem tidy_impl {n : Nat} (g : Nat) (pw : Int) (o : Value) (us : List Value) (L : List (Pm n)) (w : World) (B : Nat) (hB : B ≤ w.heap.size) (hgB : g < B) (hX : Bx w g [.int .i64 (n : Int), .int .i64 pw, o]) (h : NB w B o us L) (hwt : (gar n).Wt L) (hl : L.length ≤ 1048576) (hp0 : -1048576 ≤ pw) (hp1 : pw ≤ 1048576) (hn : n ≤ 12) :
    Calls Try.prog 137 #[.pointer (some ⟨g, 0, none⟩)] w fun e w' => ∃ o' us', e = .returned (.tuple #[]) ∧ NB w' B o' us' ((gar n).NF (pw, L)).2 ∧ Bx w' g [.int .i64 (n : Int), .int .i64 ((gar n).NF (pw, L)).1, o'] ∧ Below g w w' := by
  have hH := hid (fun (w' : World) => half_impl (n : Int) w' (by omega) (by omega))
  have hI := hid (fun (w' : World) => idn_impl (n : Int) w' (by omega) (by omega))
  simp only [Int.toNat_natCast] at hH hI
  have hK := hid (fun (w' : World) (hw : Below w.heap.size w w') => (hX.below hw).cell 0 rfl)
  have hX' := hid hX
  have hN' := hid h
  have hwt' := hid hwt
  have hdz : w.drew.heap.size = w.heap.size := rfl
  clear hX h hwt
  go_enter Try.func137, Try.ntmps137
  go_wp2_with fail
  go_region_held3 (fun w' => w'.cell? ⟨g, 0, none⟩ = some (.int .i64 (n : Int))) (first | exact hK.out _ (Below.refl _ _).drew | exact hK.out _ hbT | exact hK.out _ hbS) ((first | (go_at_call 61; refine (hH.out _).mono ?_; rintro e w3 ⟨x, rfl, hx, hs3⟩; have hbT : Below w.heap.size w w3 := by (first | exact (Below.refl _ w).drew.trans hs3 | exact hbS.trans (hs3.mono hbS.size))) | (go_at_call 60; refine (hI.out _).mono ?_; rintro e w4 ⟨y, rfl, hy, hs4⟩; have hbS : Below w.heap.size w w4 := by (first | exact (Below.refl _ w).drew.trans hs4 | exact hbT.trans (hs4.mono hbT.size)))))
  all_goals
    have hall : ∃ wE : World, True := ⟨w, trivial⟩
    clear hall
    first
      | (have hxE := hid (hx.below hs4); have hyE := hid hy; have hbE := hbS)
      | (have hyE := hid (hy.below hs3); have hxE := hid hx; have hbE := hbT)
    have hNE := hid (hN'.out.below hbE)
    have hXE := hid (hX'.out.below hbE)
    have hbE' := hid (hbE.mono (show g ≤ w.heap.size by omega))
    have hxE2 := hid (hxE.out.mono (B' := B) (by have := hs3.size; have := hs4.size; first | omega | (simp at *; omega)))
    have hyE2 := hid (hyE.out.mono (B' := B) (by have := hs3.size; have := hs4.size; first | omega | (simp at *; omega)))
    clear hK hX' hN' hx hy hxE hyE hbE hbS hbT hs3 hs4
    go_wp2_with fail
    go_loopg [] (L.length) (fun gk wr => ∃ (pw' : Int) (o : Value) (us : List Value) (M : List (Pm n)), NB wr B o us M ∧ Bx wr g [.int .i64 (n : Int), .int .i64 pw', o] ∧ Own wr B 2 x (ints (halfF n)) ∧ Own wr B 2 y (ints (idn n)) ∧ Below g w wr ∧ (gar n).NF (pw', M) = (gar n).NF (pw, L) ∧ (gar n).Wt M ∧ M.length ≤ gk ∧ M.length ≤ L.length ∧ pw ≤ pw' ∧ pw' + M.length ≤ pw + L.length)
    case atStart => exact ⟨pw, o, us, L, hNE.out, hXE.out, hxE2.out, hyE2.out, hbE'.out, rfl, hwt'.out, Nat.le_refl _, Nat.le_refl _, Int.le_refl _, Int.le_refl _⟩
    case round =>
      clear hNE hXE hxE2 hyE2 hbE'
      obtain ⟨pw', o, us, M, hN, hX, hx, hy, hb, hnf, hwt, hgk, hMl, hq0, hq1⟩ := hrel
      have hnf := hid hnf
      have hwt := hid hwt
      have hBw : B ≤ wr.heap.size := by have := hb.size; omega
      have hln := hN.own.reads.len (P := Try.prog) 22 3 ⟨_, sliceII⟩
      have hsm := hN.own.reads.small
      rw [hN.len] at hln hsm
      have A0 := hX.cell 0 rfl
      have A1 := hX.cell 1 rfl
      have A2 := hX.cell 2 rfl
      have key : (M = [] ∨ (∃ q M', M = q :: M' ∧ n < 2) ∨ (∃ q M', M = q :: M' ∧ 2 ≤ n ∧ q ≠ top n)) ∨ (∃ M', M = top n :: M' ∧ 2 ≤ n) := by
        cases M with
        | nil => exact .inl (.inl rfl)
        | cons q M' =>
          by_cases h2 : n < 2
          · exact .inl (.inr (.inl ⟨q, M', rfl, h2⟩))
          · by_cases h3 : q = top n
            · exact .inr ⟨M', by rw [h3], by omega⟩
            · exact .inl (.inr (.inr ⟨q, M', rfl, by omega, h3⟩))
      rcases key with hexit | ⟨M', rfl, h2⟩
      case inr =>
        have hi := hN.own.reads.idx 22 sliceII sizeSI .i64 0 (by omega) (by rw [hN.len]; simp)
        simp only [Int.toNat_zero] at hi
        have hc := hN.own.reads.cell 0 _ (vat_of (by rw [hN.len]; simp))
        have hrow := (hN.row 0 (by simp)).reads
        have hp0' : pat (top n :: M') 0 = top n := rfl
        rw [hp0', ← half_val] at hrow
        simp only [List.length_cons] at hln hsm hgk hMl hq1
        have hln' : ∀ w', Sem.run Try.prog (Builtin.len_ #[22] 3 #[o]) w' = .ok (.int .i64 ((M'.length : Int) + 1)) w' := fun w' => by rw [hln]; simp
        clear hln hp0'
        go_wp2_with fail
        refine (equal_impl _ _ _ _ _ hrow hx.reads).mono ?_
        rintro e w5 ⟨rfl, hs5⟩
        rw [show decide (halfF n = halfF n) = true from decide_eq_true rfl]
        have hX5 := hX.below hs5
        have hz5 := hs5.size
        have hN5 := (hN.below hs5).tail
        have hsl := hN.own.reads.onwards_run (P := Try.prog) sliceII sizeSI .i64 1 (by omega) (by rw [hN.len]; simp; omega)
        rw [show (1 : Int).toNat = 1 from rfl] at hsl
        generalize onwards o 1 = o2 at *
        obtain ⟨oa, on, oc, rfl⟩ := own_lit hN5.own
        have c0 := hX5.cell 0 rfl
        have c1 := hX5.cell 1 rfl
        have c2 := hX5.cell 2 rfl
        have f1 := hX5.frozen 1
        have f2 := hX5.frozen 2
        have hX6 := hid ((hX5.set 1 (.int .i64 (pw' + 1))).set 2 (.slice oa on oc))
        have hN6 := hid ((hN5.set_block hgB 1 (.int .i64 (pw' + 1))).set_block hgB 2 (.slice oa on oc))
        have hx6 := hid (((hx.below hs5).set_block hgB 1 (.int .i64 (pw' + 1))).set_block hgB 2 (.slice oa on oc))
        have hy6 := hid (((hy.below hs5).set_block hgB 1 (.int .i64 (pw' + 1))).set_block hgB 2 (.slice oa on oc))
        have hb5 := hid (hb.trans (hs5.mono (show g ≤ wr.heap.size by omega)))
        have hnf2 := hid ((gar n).NF_cons_top (top_ne_one h2) pw' M')
        have hwt2 := hid ((gar n).wt_tail hwt.out)
        clear hX5 hN5 hrow hc hN hX A0 A1 A2 hx hy hs5
        go_wp2_with fail
        go_roundg M'.length
        case rel => exact ⟨pw' + 1, .slice oa on oc, us.drop 1, M', hN6.out, hX6.out, hx6.out, hy6.out, (hb5.out.setCell (Nat.le_refl g) _).setCell (Nat.le_refl g) _, by rw [← hnf2.out]; exact hnf.out, hwt2.out, Nat.le_refl _, by omega, by omega, by omega⟩
        case measure => omega
      case inl =>
      rcases hexit with rfl | ⟨q, M', rfl, h2⟩ | ⟨q, M', rfl, h2, h3⟩
      case' inl =>
        have hhd := hid (Or.inr (by simp) : n < 2 ∨ ([] : List (Pm n)).head? ≠ some (top n))
        go_wp2_with fail
      case' inr.inl =>
        have hhd := hid (Or.inl h2 : n < 2 ∨ (q :: M').head? ≠ some (top n))
        have hln' : ∀ w', Sem.run Try.prog (Builtin.len_ #[22] 3 #[o]) w' = .ok (.int .i64 ((M'.length : Int) + 1)) w' := fun w' => by rw [hln]; simp
        replace hln := hid hln
        go_wp2_with fail
      case' inr.inr =>
        have hhd := hid (Or.inr (by simpa using h3) : n < 2 ∨ (q :: M').head? ≠ some (top n))
        have hi := hN.own.reads.idx 22 sliceII sizeSI .i64 0 (by omega) (by rw [hN.len]; simp)
        simp only [Int.toNat_zero] at hi
        have hc := hN.own.reads.cell 0 _ (vat_of (by rw [hN.len]; simp))
        have hrow := (hN.row 0 (by simp)).reads
        have hp0' : pat (q :: M') 0 = q := rfl
        rw [hp0'] at hrow
        have hln' : ∀ w', Sem.run Try.prog (Builtin.len_ #[22] 3 #[o]) w' = .ok (.int .i64 ((M'.length : Int) + 1)) w' := fun w' => by rw [hln]; simp
        replace hln := hid hln
        have h3' := hid (show ¬ q.1 = halfF n from fun e => h3 (Subtype.ext (e.trans (half_val n))))
        clear hp0' h3
        go_wp2_with fail
        refine (equal_impl _ _ _ _ _ hrow hx.reads).mono ?_
        rintro e w5 ⟨rfl, hs5⟩
        rw [decide_eq_false h3'.out]
        replace hX := hX.below hs5
        replace hN := hN.below hs5
        replace hy := hy.below hs5
        replace hb := hb.trans (hs5.mono (show g ≤ wr.heap.size by omega))
        replace hBw : B ≤ w5.heap.size := by have := hs5.size; omega
        clear hx hrow hc A0 A1 A2 hs5
        go_wp2_with fail
      all_goals
        go_loopg [] (L.length) (fun gk wr => ∃ (o : Value) (us : List Value) (M : List (Pm n)), NB wr B o us M ∧ Bx wr g [.int .i64 (n : Int), .int .i64 pw', o] ∧ Own wr B 2 y (ints (idn n)) ∧ Below g w wr ∧ (gar n).NF (pw', M) = (gar n).NF (pw, L) ∧ (gar n).Wt M ∧ (n < 2 ∨ M.head? ≠ some (top n)) ∧ M.length ≤ gk ∧ M.length ≤ L.length)
        case atStart => exact ⟨o, us, _, hN, hX, hy, hb, hnf.out, hwt.out, hhd.out, hMl, hMl⟩
        case round =>
          clear hN hX hy hb hnf hwt hhd hMl hgk hln hsm hq1
          obtain ⟨o, us, M, hN, hX, hy, hb, hnf, hwt, hhd, hgk, hMl⟩ := hrel
          replace hnf := hid hnf
          replace hwt := hid hwt
          replace hhd := hid hhd
          have hBw : B ≤ wr.heap.size := by have := hb.size; omega
          have hln := hN.own.reads.len (P := Try.prog) 22 3 ⟨_, sliceII⟩
          rw [hN.len] at hln
          have hdz : wr.drew.heap.size = wr.heap.size := rfl
          have hsplit : M = [] ∨ ∃ M' q, M = M' ++ [q] := by
            rcases List.eq_nil_or_concat M with e | ⟨M', q, e⟩
            · exact .inl e
            · exact .inr ⟨M', q, by rw [e, List.concat_eq_append]⟩
          rcases hsplit with rfl | ⟨M', q, rfl⟩
          · have A2 := hX.cell 2 rfl
            have hres : (gar n).NF (pw, L) = (pw', []) := by rw [← hnf.out]; exact (gar n).NF_done (L := []) hwt.out (by simp) (by simp) _
            have e1 : ((gar n).NF (pw, L)).1 = pw' := by rw [hres]
            have e2 : ((gar n).NF (pw, L)).2 = [] := by rw [hres]
            have hX' := hid hX
            have hN' := hid hN
            have hb' := hid hb
            replace hres := hid hres
            replace e1 := hid e1
            replace e2 := hid e2
            clear hX hN hb
            go_wp2_with fail
            go_quiet (fail)
            go_wp2_with fail
            exact bodyPost_end (v := .tuple #[]) (by simp [results, Try.results137, go_sem]) rfl ⟨o, us, rfl, by rw [e2.out]; exact hN'.out.below (below_drewN (Below.refl _ _) _), by rw [e1.out]; exact hX'.out.drewN _, below_drewN hb'.out _⟩
          · have hln' : ∀ w', Sem.run Try.prog (Builtin.len_ #[22] 3 #[o]) w' = .ok (.int .i64 ((M'.length : Int) + 1)) w' := fun w' => by rw [hln]; simp
            have hlM : M'.length + 1 ≤ L.length := by simpa using hMl
            have hi := hN.own.reads.idx 22 sliceII sizeSI .i64 (M'.length : Int) (by omega) (by rw [hN.len]; simp; omega)
            simp only [Int.toNat_natCast] at hi
            have hw2 := Go.IntWalk.i64_in (M'.length : Int) (by omega)
            have hw3 : (M'.length : Int) + 1 - 1 = M'.length := by omega
            have hw1 : IntKind.i64.wrap ((M'.length : Int) + 1 - 1) = M'.length := by rw [hw3]; exact hw2
            have hrow := (hN.row M'.length (by simp)).reads
            have hpq : pat (M' ++ [q]) M'.length = q := by simp [pat]
            rw [hpq] at hrow
            have hK := hid (fun (w' : World) (hw : Below wr.heap.size wr w') => (⟨(hX.below hw).cell 2 rfl, (hN.own.reads.below hw).cell M'.length _ (vat_of (by rw [hN.len]; simp))⟩ : w'.cell? ⟨g, 2, none⟩ = some o ∧ w'.cell? (adr o M'.length) = some (vat us M'.length)))
            have hE := hid (equal_impl _ _ _ _ wr.drew (hrow.drewN 1) (hy.reads.drewN 1))
            have hX' := hid hX
            have hN' := hid hN
            have hb' := hid hb
            have hy' := hid hy
            replace hln := hid hln
            clear hX hN hb hy hrow hpq hMl hw3
            by_cases hq : q = one n
            · rw [decide_eq_true (by rw [hq, idn_val] : q.1 = idn n)] at hE
              replace hq := hid hq
              go_wp2_with fail
              go_region_held3 (fun w' => w'.cell? ⟨g, 2, none⟩ = some o ∧ w'.cell? (adr o M'.length) = some (vat us M'.length)) (first | exact hK.out _ (Below.refl _ _).drew | exact hK.out _ hbS) ((first | (go_at_call 59; refine hE.out.mono ?_; rintro e w6 ⟨rfl, hs6⟩; have hbS : Below wr.heap.size wr w6 := (Below.refl _ wr).drew.trans hs6)))
              all_goals
                have hX6 := hX'.out.below hbS
                have hN6 := (hN'.out.below hbS).init
                have hsl := hN'.out.own.reads.upto_run (P := Try.prog) sliceII sizeSI .i64 (M'.length : Int) (by omega) (by rw [hN'.out.len]; simp; omega)
                simp only [Int.toNat_natCast] at hsl
                generalize upto o M'.length = o2 at *
                obtain ⟨oa, on, oc, rfl⟩ := own_lit hN6.own
                have c2 := hX6.cell 2 rfl
                have f2 := hX6.frozen 2
                have hX7 := hid ((hX6.set 2 (.slice oa on oc)).drew)
                have hN7 := hid ((hN6.set_block hgB 2 (.slice oa on oc)).below (Below.refl _ _).drew)
                have hy7 := hid (((hy'.out.below hbS).set_block hgB 2 (.slice oa on oc)).drew)
                have hb7 := hid ((((hb'.out.trans (hbS.mono (show g ≤ wr.heap.size by omega))).setCell (p := ⟨g, 2, none⟩) (Nat.le_refl g) (.slice oa on oc))).drew)
                have hnf7 := hid (show (gar n).NF (pw', M') = (gar n).NF (pw, L) by rw [← hnf.out, hq.out]; exact ((gar n).NF_end_one pw' M').symm)
                have hwt7 := hid ((gar n).wt_init hwt.out)
                have hhd7 := hid (show n < 2 ∨ M'.head? ≠ some (top n) by
                  rcases hhd.out with e | e
                  · exact .inl e
                  · refine .inr fun e2 => e ?_
                    cases M' with
                    | nil => simp at e2
                    | cons z Z => simpa using e2)
                clear hX6 hN6 hK hE hX' hN' hy' hb'
                go_wp2_with fail
                go_region
                go_wp2_with fail
                go_roundg M'.length
                case rel => exact ⟨.slice oa on oc, us.take M'.length, M', hN7.out, hX7.out, hy7.out, hb7.out, hnf7.out, hwt7.out, hhd7.out, Nat.le_refl _, by omega⟩
                case measure => simp at hgk; omega
            · rw [decide_eq_false (fun e => hq (Subtype.ext (e.trans (idn_val n))) : ¬ q.1 = idn n)] at hE
              replace hq := hid hq
              go_wp2_with fail
              go_region_held3 (fun w' => w'.cell? ⟨g, 2, none⟩ = some o ∧ w'.cell? (adr o M'.length) = some (vat us M'.length)) (first | exact hK.out _ (Below.refl _ _).drew | exact hK.out _ hbS) ((first | (go_at_call 59; refine hE.out.mono ?_; rintro e w6 ⟨rfl, hs6⟩; have hbS : Below wr.heap.size wr w6 := (Below.refl _ wr).drew.trans hs6)))
              all_goals
                have hres := (gar n).NF_done (L := M' ++ [q]) hwt.out (by
                  rcases hhd.out with e | e
                  · exact absurd (all_one e q) hq.out
                  · exact e) (fun e => by
                  have e3 : (M' ++ [q]).getLast? = some q := by simp
                  rw [e3] at e
                  exact hq.out (Option.some.inj e)) pw'
                rw [hnf.out] at hres
                have e1 := hid (show ((gar n).NF (pw, L)).1 = pw' by rw [hres])
                have e2 := hid (show ((gar n).NF (pw, L)).2 = M' ++ [q] by rw [hres])
                have hbz := hid hbS
                clear hres hK hE
                go_wp2_with fail
                exact bodyPost_end (v := .tuple #[]) (by simp [results, Try.results137, go_sem]) rfl ⟨o, us, rfl, by rw [e2.out]; exact hN'.out.below hbz.out, by rw [e1.out]; exact hX'.out.below hbz.out, hb'.out.trans (hbz.out.mono (by omega))⟩


end Go.Proofs.Ytmeccemnmkobbaa

namespace Go.Proofs.Ytmeccemnmkobbaa
open Go.RowKit
open Pm

theorem vat_snoc_lt {us : List Value} {u : Value} {i : Nat} (h : i < us.length) : vat (us ++ [u]) i = vat us i := vat_snoc h
/-- a new row is put behind -/
theorem NB.app {n : Nat} {w w1 : World} {B : Nat} {o u : Value} {us : List Value} {L : List (Pm n)} {p : Pm n} (h : NB w B o us L) (hb : Below w.heap.size w w1) (hB : B ≤ w.heap.size) (hu : Own w1 w.heap.size 2 u (ints p.1)) (hl : L.length ≤ 1048576) :
    ∃ v' w', (Builtin.append_ #[22, 22] 22 #[o, .slice (some ⟨w1.heap.size, 0, none⟩) 1 1]).run Try.prog (w1.alloc (.cells #[u] 32)) = .ok v' w' ∧ NB w' B v' (us ++ [u]) (L ++ [p]) ∧ Below B w1 w' := by
  have ha : Below w1.heap.size w1 (w1.alloc (.cells #[u] 32)) := (Below.refl _ _).alloc (Nat.le_refl _) _
  have hsz := hb.size
  have h1 := h.below hb
  have hA := h1.below ha
  have hone : u.oneCell' = true := by obtain ⟨a, c, e, -⟩ := hu.reads.form; rw [e]; rfl
  have hul := h.len
  obtain ⟨v', w', hr, ho, hg, hst⟩ := app_runF (ty := 22) sliceII infoSI rfl hA.own (reads_one w1 u 32) (by simpa using hone) (by simp; omega) (by simp; omega) (by decide)
  have hbw : Below B w1 w' := (ha.mono (by omega)).grown hg (by simp; omega) (fun k hk => (hA.own.blk_lt hk).1)
  have hapu : Apart u o := apart_new' h.own hu
  have hkeep : ∀ {B' : Nat} {e : TypeId} {v : Value} {xs : List Value}, Own w1 B' e v xs → Apart v o → Own w' B' e v xs := fun {B' e v xs} hr ha2 =>
    (hr.below ha).keep fun k hk hlt => hg.block k hlt (fun e => ha2 k hk e)
  have hst' : ∀ {v : Value}, (∀ k, blk v = some k → k < w1.heap.size) → Apart v o → Apart v v' := fun {v} hv ha2 k hk e => by
    rcases hst k e.symm with h1 | h1
    · exact ha2 k hk h1.symm
    · have := hv k hk; simp at h1; omega
  have hp1 : ∀ i, i < L.length → pat (L ++ [p]) i = pat L i := fun i hi => by unfold pat; rw [List.getElem?_append_left hi]
  have hp2 : pat (L ++ [p]) L.length = p := by simp [pat]
  have hv1 : ∀ i, i < L.length → vat (us ++ [u]) i = vat us i := fun i hi => vat_snoc (by omega)
  have hv2 : vat (us ++ [u]) L.length = u := by rw [← hul]; exact vat_last us u
  refine ⟨v', w', hr, ⟨ho, by simp [hul], fun i hi => ?_, fun i j hij hi hj => ?_, fun i hi => ?_⟩, hbw⟩
  · rw [List.length_append, List.length_singleton] at hi
    by_cases e : i < L.length
    · rw [hv1 i e, hp1 i e]; exact hkeep (h1.row i e) (h.outer i e)
    · obtain rfl : i = L.length := by omega
      rw [hv2, hp2]; exact (hkeep hu hapu).mono (by omega)
  · rw [List.length_append, List.length_singleton] at hi hj
    by_cases e : i < L.length
    · by_cases e2 : j < L.length
      · rw [hv1 i e, hv1 j e2]; exact h.apart i j hij e e2
      · obtain rfl : j = L.length := by omega
        rw [hv1 i e, hv2]; exact apart_new (h.row i e) hu
    · obtain rfl : i = L.length := by omega
      by_cases e2 : j < L.length
      · rw [hv2, hv1 j e2]; exact apart_new' (h.row j e2) hu
      · omega
  · rw [List.length_append, List.length_singleton] at hi
    by_cases e : i < L.length
    · rw [hv1 i e]; exact hst' (fun k hk => ((h1.row i e).blk_lt hk).2) (h.outer i e)
    · obtain rfl : i = L.length := by omega
      rw [hv2]; exact hst' (fun k hk => (hu.blk_lt hk).2) hapu


end Go.Proofs.Ytmeccemnmkobbaa

namespace Go.Proofs.Ytmeccemnmkobbaa
open Go.RowKit
open Pm

theorem far_moves {n : Nat} (k : Nat) (A B : List (Pm n)) (p q p' q' : Pm n) (t : Int) (h1 : ni p' = ni p + t) (h2 : ni q' = ni q - t) : far k (A ++ p' :: q' :: B) = far k (A ++ p :: q :: B) - t := by
  induction A generalizing k with
  | nil =>
    simp only [List.nil_append, far]
    rw [h1, h2, Int.mul_add, Int.mul_sub]
    have : ((k + 1 : Nat) : Int) = (k : Int) + 1 := by omega
    rw [this, Int.add_mul, Int.add_mul, Int.one_mul, Int.one_mul]; omega
  | cons x A ih => simp only [List.cons_append, far]; rw [ih (k + 1)]; omega
theorem far_at {n : Nat} {L : List (Pm n)} {i : Nat} (h : i + 1 < L.length) {p q : Pm n} {t : Int} (h1 : ni p = ni (pat L i) + t) (h2 : ni q = ni (pat L (i + 1)) - t) : far 0 (mv L i p q) = far 0 L - t := by
  obtain ⟨A, B, e1, e2⟩ := two_at h
  rw [e2]
  generalize pat L i = p0 at *
  generalize pat L (i + 1) = q0 at *
  rw [e1]
  exact far_moves 0 A B p0 q0 p q t h1 h2
theorem eqv_at {n : Nat} {L : List (Pm n)} {i : Nat} (h : i + 1 < L.length) {p q : Pm n} (hE : (gar n).Eqv [pat L i, pat L (i + 1)] [p, q]) : (gar n).Eqv L (mv L i p q) := by
  obtain ⟨A, B, e1, e2⟩ := two_at h
  rw [e2]
  generalize pat L i = p0 at *
  generalize pat L (i + 1) = q0 at *
  rw [e1]
  have h3 := (gar n).eqv_app ((gar n).eqv_refl A) ((gar n).eqv_app hE ((gar n).eqv_refl B))
  simpa using h3
theorem mv_same {n : Nat} {L : List (Pm n)} {i : Nat} (h : i + 1 < L.length) : mv L i (pat L i) (pat L (i + 1)) = L := by
  obtain ⟨A, B, e1, e2⟩ := two_at h
  rw [e2]; exact e1.symm

set_option maxRecDepth 100000 in
set_option maxHeartbeats 8000000 in
theorem times_impl {n : Nat} (g : Nat) (pw : Int) (o v : Value) (us : List Value) (L : List (Pm n)) (p : Pm n) (w : World) (B : Nat) (hB : B ≤ w.heap.size) (hgB : g < B) (hX : Bx w g [.int .i64 (n : Int), .int .i64 pw, o]) (h : NB w B o us L) (hv : Reads w v (ints p.1)) (hl : L.length ≤ 1048575) (hp0 : -1048576 ≤ pw) (hp1 : pw ≤ 1048576) (hn : n ≤ 12) :
    Calls Try.prog 123 #[.pointer (some ⟨g, 0, none⟩), v] w fun e w' => ∃ o' us', e = .returned (.tuple #[]) ∧ NB w' B o' us' ((gar n).NF (pw, L ++ [p])).2 ∧ Bx w' g [.int .i64 (n : Int), .int .i64 ((gar n).NF (pw, L ++ [p])).1, o'] ∧ Below g w w' := by
  have hC := hid (fun (w' : World) (hw : Below w.heap.size w w') => clone_run v p.1 w' (hv.below hw) (by rw [p.len]; omega))
  have A2d : w.drew.cell? ⟨g, 2, none⟩ = some o := hX.drew.cell 2 rfl
  have hX' := hid hX
  have hN' := hid h
  have hdz : w.drew.heap.size = w.heap.size := rfl
  have hbD := hid ((Below.refl w.heap.size w).drew)
  clear hX h hv
  go_enter Try.func123, Try.ntmps123
  go_wp2_with fail
  go_region_law ((first | (refine step_call (hC.out _ hbD.out) (fun _ => by kernel_rfl) rfl (.tmp 11) rfl (by simp [Act.eval, Act.put]) ?_; rintro e w3 ⟨x, rfl, hx, hs3⟩; refine ⟨_, rfl, ?_⟩; obtain ⟨xa, xn, xc, rfl⟩ := own_lit hx; have hbS : Below w.heap.size w w3 := hbD.out.trans hs3; obtain ⟨v', w4, hrun, hN4, hb4⟩ := hN'.out.app hbS hB hx (by omega); have hX3 := hX'.out.below hbS; have hX4 := hX3.belowB hb4 hgB; have c3 := hX3.cell 2 rfl; have c3a := (hX3.alloc (.cells #[.slice xa xn xc] 32)).cell 2 rfl; have c4 := hX4.cell 2 rfl; have f4 := hX4.frozen 2; obtain ⟨va, vn, vc, rfl⟩ := own_lit hN4.own) | (refine step_app hrun rfl (.tmp 10) (.tmp 13) rfl (by simp [Act.eval]) (by simp [Act.eval]) ?_)))
  all_goals
    have hXS := hid (hX4.set 2 (.slice va vn vc))
    have hNS := hid (hN4.set_block hgB 2 (.slice va vn vc))
    have hbW := hid (((hbS.mono (show g ≤ w.heap.size by omega)).trans (hb4.mono (Nat.le_of_lt hgB))).setCell (p := ⟨g, 2, none⟩) (Nat.le_refl g) (.slice va vn vc))
    have hL1 : (L ++ [p]).length = L.length + 1 := by simp
    generalize hWS : w4.setCell ⟨g, 2, none⟩ (.slice va vn vc) = wS at *
    generalize hgo : Value.slice va vn vc = o1 at *
    generalize us ++ [Value.slice xa xn xc] = us1 at *
    generalize hLe : L ++ [p] = L1 at *
    have hLe' := hid hLe
    clear hLe
    replace hXS : Hid (Bx wS g [.int .i64 (n : Int), .int .i64 pw, o1]) := hXS
    clear hWS hgo hN4 hX4 hX3 hb4 hbS hx hs3 c3 c3a c4 f4 A2d hC hX' hN' hbD
    go_wp2_with fail
    go_loopg [4, 5] (far 0 L1 + 1).toNat (fun gk b _ wr => ∃ M, NB wr B o1 us1 M ∧ Bx wr g [.int .i64 (n : Int), .int .i64 pw, o1] ∧ M.length = L1.length ∧ (gar n).Eqv L1 M ∧ Below g w wr ∧ ((b = .bool true ∧ (far 0 M + 1).toNat ≤ gk) ∨ (b = .bool false ∧ ∀ t, t + 1 < L1.length → exl M t = 0)))
    case atStart => exact ⟨L1, hNS.out, hXS.out, rfl, (gar n).eqv_refl _, hbW.out, .inl ⟨rfl, Nat.le_refl _⟩⟩
    case round =>
      clear hNS hXS hbW
      obtain ⟨M0, hN, hX, hMl, hE, hb, hbb⟩ := hrel
      have hBw : B ≤ wr.heap.size := by have := hb.size; omega
      rcases hbb with ⟨rfl, hgk⟩ | ⟨rfl, hfin⟩
      case inr =>
        have hwt := hid (wt_of_all (L := M0) fun i hi => hfin i (by omega))
        replace hE := hid hE
        replace hN := hid hN
        replace hX := hid hX
        replace hb := hid hb
        clear hfin
        go_wp2_with fail
        refine (tidy_impl g pw o1 us1 M0 wr B hBw hgB hX.out hN.out hwt.out (by omega) hp0 hp1 hn).mono ?_
        rintro e w5 ⟨o', us', rfl, hN5, hX5, hb5⟩
        replace hN5 := hid hN5
        replace hX5 := hid hX5
        replace hb5 := hid hb5
        go_wp2_with fail
        exact bodyPost_end (v := .tuple #[]) (by simp [results, Try.results123, go_sem]) rfl ⟨o', us', rfl, by rw [hLe'.out, (gar n).NF_eqv hE.out]; exact hN5.out, by rw [hLe'.out, (gar n).NF_eqv hE.out]; exact hX5.out, hb.out.trans hb5.out⟩
      case inl =>
      replace hE := hid hE
      have hln : ∀ w', Sem.run Try.prog (Builtin.len_ #[22] 3 #[o1]) w' = .ok (.int .i64 ((L.length : Int) + 1)) w' := fun w' => by
        have := hN.own.reads.len (P := Try.prog) 22 3 ⟨_, sliceII⟩ w'
        rw [hN.len, hMl, hL1] at this; simpa using this
      have A2 := hX.cell 2 rfl
      have hN' := hid hN
      have hX' := hid hX
      have hb' := hid hb
      clear hN hX hb hBw
      go_wp2_with fail
      go_loopw [4, 5] (fun b i wr => ∃ (k : Int) (M : List (Pm n)), -1 ≤ k ∧ k < L.length ∧ i = .int .i64 k ∧ NB wr B o1 us1 M ∧ Bx wr g [.int .i64 (n : Int), .int .i64 pw, o1] ∧ M.length = L1.length ∧ (gar n).Eqv L1 M ∧ Below g w wr ∧ ((b = .bool false ∧ M = M0 ∧ ∀ t : Nat, k < t → t + 1 < L1.length → exl M t = 0) ∨ (b = .bool true ∧ far 0 M < far 0 M0))) (fun _ i _ => (intOf i + 1).toNat)
      case atStart => exact ⟨(L.length : Int) - 1, M0, by omega, by omega, by go_num, hN'.out, hX'.out, hMl, hE.out, hb'.out, .inl ⟨rfl, rfl, fun t h1 h2 => by omega⟩⟩
      case round =>
        clear hE hN' hX' hb' hln A2
        obtain ⟨k, M, hk0, hk1, rfl, hN, hX, hM2, hE, hb, hbb⟩ := hrel
        have hBw : B ≤ wr.heap.size := by have := hb.size; omega
        replace hE := hid hE
        replace hbb := hid hbb
        by_cases hk : 0 ≤ k
        case neg =>
          replace hN := hid hN
          replace hX := hid hX
          replace hb := hid hb
          go_wp2_with fail
          rcases hbb.out with ⟨rfl, rfl, hz⟩ | ⟨rfl, hlt2⟩
          · go_roundg 0
            case rel => exact ⟨M, hN.out, hX.out, hM2, hE.out, hb.out, .inr ⟨rfl, fun t ht => hz t (by omega) ht⟩⟩
            case measure => have := far_nonneg 0 M; omega
          · go_roundg (far 0 M + 1).toNat
            case rel => exact ⟨M, hN.out, hX.out, hM2, hE.out, hb.out, .inl ⟨rfl, Nat.le_refl _⟩⟩
            case measure => have := far_nonneg 0 M; omega
        case pos =>
        obtain ⟨j, rfl⟩ := Int.eq_ofNat_of_zero_le hk
        have hi := hN.own.reads.idx 22 sliceII sizeSI .i64 j (by omega) (by rw [hN.len]; omega)
        have hi2 := hN.own.reads.idx 22 sliceII sizeSI .i64 ((j : Int) + 1) (by omega) (by rw [hN.len]; omega)
        rw [show ((j : Int) + 1).toNat = j + 1 by omega] at hi2
        have hw1 := Go.IntWalk.i64_in ((j : Int) + 1) (by omega)
        simp only [Int.toNat_natCast] at hi
        have hK := hid (fun (w' : World) (hw : Below wr.heap.size wr w') => (⟨(hX.below hw).cell 2 rfl, (hN.own.reads.below hw).cell j _ (vat_of (by rw [hN.len]; omega)), (hN.own.reads.below hw).cell (j + 1) _ (vat_of (by rw [hN.len]; omega))⟩ : w'.cell? ⟨g, 2, none⟩ = some o1 ∧ w'.cell? (adr o1 j) = some (vat us1 j) ∧ w'.cell? (adr o1 (j + 1)) = some (vat us1 (j + 1))))
        have hND := hid (hN.below (Below.refl _ wr).drew)
        have hXD := hid (hX.below (Below.refl _ wr).drew)
        have hWg := hid (weigh_impl (vat us1 j) (vat us1 (j + 1)) (pat M j) (pat M (j + 1)) wr.drew B hBw (hND.out.row j (by omega)) (hND.out.row (j + 1) (by omega)) (hND.out.apart j (j + 1) (by omega) (by omega) (by omega)) hn)
        have hbD := hid (hb.trans ((Below.refl _ wr).drew.mono (show g ≤ wr.heap.size by omega)))
        have hlen2 := hid hN.len
        clear hN hX hb
        go_wp2_with fail
        go_region_held3 (fun w' => w'.cell? ⟨g, 2, none⟩ = some o1 ∧ w'.cell? (adr o1 j) = some (vat us1 j) ∧ w'.cell? (adr o1 (j + 1)) = some (vat us1 (j + 1))) (first | exact hK.out _ (Below.refl _ _).drew | exact hS3.out) ((first | (go_at_call 136; refine hWg.out.mono ?_; rintro e w3 ⟨p', q', t, rfl, hp', hq', hg3, hE3, hn1, hn2, h0, hx3⟩; obtain ⟨hN3, hb3⟩ := hND.out.gr2 hBw (i := j) (by omega) hg3 hp' hq'; have hX3 := hXD.out.belowB hb3 hgB; have hS3 := hid (⟨hX3.cell 2 rfl, hN3.own.reads.cell j _ (vat_of (by rw [hlen2.out]; omega)), hN3.own.reads.cell (j + 1) _ (vat_of (by rw [hlen2.out]; omega))⟩ : w3.cell? ⟨g, 2, none⟩ = some o1 ∧ w3.cell? (adr o1 j) = some (vat us1 j) ∧ w3.cell? (adr o1 (j + 1)) = some (vat us1 (j + 1))))))
        all_goals
          have hEM := hid (eqv_at (L := M) (i := j) (by omega) hE3)
          have hfr := hid (far_at (L := M) (i := j) (by omega) hn1 hn2)
          have hb4 := hid (hbD.out.trans (hb3.mono (Nat.le_of_lt hgB)))
          have hN4 := hid hN3
          have hX4 := hid hX3
          have h0' := hid h0
          have hx' := hid hx3
          clear hK hND hXD hWg hbD hS3 hp' hq' hg3 hE3 hn1 hn2 h0 hx3 hN3 hX3 hb3 hi hi2 hlen2
          by_cases ht : 0 < t
          · rw [decide_eq_true ht]
            go_wp2_with fail
            go_roundw
            case rel => exact ⟨(j : Int) - 1, mv M j p' q', by omega, by omega, by go_num, hN4.out, hX4.out, by rw [length_mv]; exact hM2, (gar n).eqv_trans hE.out hEM.out, hb4.out, .inr ⟨rfl, by rcases hbb.out with ⟨-, e2, -⟩ | ⟨-, e2⟩ <;> have := hfr.out <;> first | (rw [← e2]; omega) | omega⟩⟩
            case measure => simp [intOf] <;> omega
          · obtain rfl : t = 0 := by omega
            obtain ⟨rfl, rfl⟩ := h0'.out rfl
            rw [mv_same (by omega)] at hN4
            rw [decide_eq_false ht]
            go_wp2_with fail
            go_roundw
            case rel =>
              refine ⟨(j : Int) - 1, M, by omega, by omega, by go_num, hN4.out, hX4.out, hM2, hE.out, hb4.out, ?_⟩
              rcases hbb.out with ⟨e1, e2, hz⟩ | ⟨e1, e2⟩
              · refine .inl ⟨e1, e2, fun t h1 h2 => ?_⟩
                by_cases e : t = j
                · rw [e]; exact hx'.out
                · exact hz t (by omega) h2
              · exact .inr ⟨e1, e2⟩
            case measure => simp [intOf] <;> omega


end Go.Proofs.Ytmeccemnmkobbaa
