/- Contracts: letters moved between two factors in place, in the program. -/
import Derived.Test.YtmeccemnmkobbaaRed
namespace Go.Proofs.Ytmeccemnmkobbaa
open Go.RowKit
open Pm

/-- of old memory the blocks of a and b alone may have turned -/
structure Gr2 (w w' : World) (a b : Value) : Prop where
  os : w'.os = w.os
  tape : w'.tape = w.tape
  output : w'.output = w.output
  size : w.heap.size ≤ w'.heap.size
  block : ∀ k, k < w.heap.size → blk a ≠ some k → blk b ≠ some k → w'.heap[k]? = w.heap[k]?
theorem Gr2.refl (w : World) (a b : Value) : Gr2 w w a b := ⟨rfl, rfl, rfl, Nat.le_refl _, fun _ _ _ _ => rfl⟩
theorem Gr2.trans {w w' w'' : World} {a b : Value} (h : Gr2 w w' a b) (k : Gr2 w' w'' a b) : Gr2 w w'' a b :=
  ⟨k.os.trans h.os, k.tape.trans h.tape, k.output.trans h.output, Nat.le_trans h.size k.size, fun i hi h1 h2 => (k.block i (Nat.lt_of_lt_of_le hi h.size) h1 h2).trans (h.block i hi h1 h2)⟩
theorem Gr2.ofBelow {w w' : World} (a b : Value) (h : Below w.heap.size w w') : Gr2 w w' a b := ⟨h.os, h.tape, h.output, h.size, fun k hk _ _ => h.block k hk⟩
theorem Gr2.set {w w' : World} {a b : Value} (h : Gr2 w w' a b) {p : Addr} (hp : blk a = some p.block ∨ blk b = some p.block) (u : Value) : Gr2 w (w'.setCell p u) a b :=
  ⟨h.os, h.tape, h.output, by simpa [World.setCell] using h.size, fun k hk h1 h2 => (Below.heap_setCell _ _ _ _ (fun e => by
    subst e
    rcases hp with hp | hp
    · exact h1 hp
    · exact h2 hp)).trans (h.block k hk h1 h2)⟩
theorem Gr2.drew {w w' : World} {a b : Value} (h : Gr2 w w' a b) : Gr2 w w'.drew a b := ⟨h.os, h.tape, h.output, h.size, h.block⟩
theorem nth_mix {l m : List Int} {j : Nat} (hm : m.length = l.length) (hj : j < l.length) : nth (m.take j ++ l.drop j) j = nth l j := by
  have h1 : (m.take j).length = j := by simp; omega
  unfold nth
  rw [List.getElem?_append_right (by omega), h1, Nat.sub_self, List.getElem?_drop, Nat.add_zero]
theorem Own.set_apart {w : World} {B B' : Nat} {e e' : TypeId} {a b : Value} {xs ys : List Value} (h : Own w B e b ys) (ha : Own w B' e' a xs) (hap : Apart a b) {i : Nat} (hi : i < xs.length) (u : Value) : Own (w.setCell (adr a i) u) B e b ys :=
  h.keep fun k hk _ => Below.heap_setCell _ _ _ _ (fun e => hap k (by rw [(ha.adr_blk hi).1, e]) hk.symm)

set_option maxRecDepth 100000 in
set_option maxHeartbeats 8000000 in
theorem weigh_impl {n : Nat} (a b : Value) (p q : Pm n) (w : World) (B : Nat) (hB : B ≤ w.heap.size) (ha : Own w B 2 a (ints p.1)) (hb : Own w B 2 b (ints q.1)) (hap : Apart a b) (hn : n ≤ 12) :
    Calls Try.prog 136 #[a, b] w fun e w' => ∃ (p' q' : Pm n) (t : Nat), e = .returned (.bool (decide (0 < t))) ∧ Own w' B 2 a (ints p'.1) ∧ Own w' B 2 b (ints q'.1) ∧ Gr2 w w' a b ∧ (gar n).Eqv [p, q] [p', q'] ∧ ni p' = ni p + t ∧ ni q' = ni q - t ∧ (t = 0 → p' = p ∧ q' = q) ∧ extraF p'.1 q'.1 = 0 := by
  go_enter Try.func136, Try.ntmps136
  go_wp2_with fail
  go_loopg [5] (ni q).toNat (fun g any wr => ∃ (p' q' : Pm n) (t : Nat), any = .bool (decide (0 < t)) ∧ Own wr B 2 a (ints p'.1) ∧ Own wr B 2 b (ints q'.1) ∧ Gr2 w wr a b ∧ (gar n).Eqv [p, q] [p', q'] ∧ ni p' = ni p + t ∧ ni q' = ni q - t ∧ (t = 0 → p' = p ∧ q' = q) ∧ (ni q').toNat ≤ g)
  case atStart => exact ⟨p, q, 0, rfl, ha, hb, Gr2.refl _ _ _, (gar n).eqv_refl _, by omega, by omega, fun _ => ⟨rfl, rfl⟩, Nat.le_refl _⟩
  case round =>
    clear ha hb
    obtain ⟨p', q', t, rfl, ha, hb, hg, hE, hp1, hq1, ht, hgk⟩ := hrel
    have hE' := hid hE
    have hp1' := hid hp1
    have hq1' := hid hq1
    have ht' := hid ht
    have hgk' := hid hgk
    clear hE hp1 hq1 ht hgk
    go_wp2_with fail
    refine (missing_impl _ _ _ _ _ ha.reads hb.reads (by rw [Pm.len]; omega) (by rw [Pm.len]; omega) (Pm.small _)).mono ?_
    rintro e w1 ⟨rfl, hs1⟩
    have hg1 := hid (hg.trans (Gr2.ofBelow a b hs1))
    have hB1 : B ≤ w1.heap.size := by have := hg.size; have := hs1.size; omega
    replace ha := ha.below hs1
    replace hb := hb.below hs1
    clear hg hs1
    by_cases hx : extraF p'.1 q'.1 = 0
    · rw [hx]
      have hx := hid hx
      go_wp2_with fail
      go_ret
      exact ⟨p', q', t, rfl, ha, hb, hg1.out, hE'.out, hp1'.out, hq1'.out, ht'.out, hx.out⟩
    · obtain ⟨m, hmn, hm0, hke, hle, hrd⟩ := extra_ne p' q' hx
      have hEq := hid ((gar n).eqv_trans hE'.out (move_eqv p' q' hmn hle hrd))
      have hni := hid (⟨ni_back p' hmn hm0 hrd, ni_front q' hmn hm0 hle⟩ : _ ∧ _)
      have hbv := hid (back_val p' hmn hm0)
      have hfv := hid (front_val q' hmn hm0)
      have hqn := ni_nonneg (mul (sg n m hmn) q')
      rw [hke]
      have hm1 : ((m : Int) == 0) = false := by rw [beq_eq_false_iff_ne]; omega
      have hpl := p'.len
      have hql := q'.len
      have hlen := ha.reads.len (P := Try.prog) 32 3 ⟨_, sliceI⟩
      simp only [length_ints, hpl] at hlen
      generalize hP : mul p' (sg n m hmn) = P' at *
      generalize hQ : mul (sg n m hmn) q' = Q' at *
      clear hke hle hrd hx hP hQ
      replace hb := hid hb
      go_wp2_with fail
      go_loopw [7, 8, 17] (fun _ _ i wr => ∃ j : Nat, j ≤ n ∧ i = .int .i64 j ∧ Own wr B 2 a (ints ((p'.1.map (swv (m : Int))).take j ++ p'.1.drop j)) ∧ Own wr B 2 b (ints q'.1) ∧ Gr2 w1 wr a b) (fun _ _ i _ => n - (intOf i).toNat)
      case atStart => exact ⟨0, by omega, rfl, by simpa using ha, hb.out, Gr2.refl _ _ _⟩
      case round =>
        clear ha hb
        obtain ⟨j, hj, rfl, ha, hb, hg⟩ := hrel
        have hll : ((p'.1.map (swv (m : Int))).take j ++ p'.1.drop j).length = n := by simp [hpl]; omega
        by_cases hlt : j < n
        case pos =>
          have hi := ha.reads.idx 32 sliceI sizeI .i64 j (by omega) (by simp [hpl]; omega)
          simp only [Int.toNat_natCast] at hi
          have hc := ha.reads.cell j _ (ints_at (by omega))
          have hf := ha.frozen (i := j) (by simp [hpl]; omega)
          have hab := ha.adr_blk (i := j) (by simp [hpl]; omega)
          rw [nth_mix (by simp) (by omega)] at hc
          have hst := ha.set (i := j) (by simp [hpl]; omega) (.int .i64 (swv (m : Int) (nth p'.1 j)))
          rw [ints_set, swv_step (by omega)] at hst
          have hbs := hb.set_apart ha hap (i := j) (by simp [hpl]; omega) (.int .i64 (swv (m : Int) (nth p'.1 j)))
          have hgs := hg.set (p := adr a j) (.inl hab.1) (.int .i64 (swv (m : Int) (nth p'.1 j)))
          by_cases e1 : nth p'.1 j = (m : Int) - 1
          · have es : swv (m : Int) (nth p'.1 j) = m := by unfold swv; rw [if_pos e1]
            rw [es] at hst hbs hgs
            rw [e1] at hc
            have n2 : ((m : Int) - 1 == (m : Int) - 1) = true := by simp
            have hst' := hid hst
            have hbs' := hid hbs
            have hgs' := hid hgs
            clear hst hbs hgs es e1 hll ha hb hg hab
            go_wp2_with fail
            go_roundw
            case rel => exact ⟨j + 1, by omega, by go_num, hst'.out, hbs'.out, hgs'.out⟩
            case measure => simp [intOf]; omega
          · by_cases e2 : nth p'.1 j = (m : Int)
            · have es : swv (m : Int) (nth p'.1 j) = m - 1 := by unfold swv; rw [if_neg e1, if_pos e2]
              rw [es] at hst hbs hgs
              rw [e2] at hc
              have n1 : ((m : Int) == (m : Int) - 1) = false := by rw [beq_eq_false_iff_ne]; omega
              have n2 : ((m : Int) == (m : Int)) = true := by simp
              have hst' := hid hst
              have hbs' := hid hbs
              have hgs' := hid hgs
              clear hst hbs hgs es e1 e2 hll ha hb hg hab
              go_wp2_with fail
              go_roundw
              case rel => exact ⟨j + 1, by omega, by go_num, hst'.out, hbs'.out, hgs'.out⟩
              case measure => simp [intOf]; omega
            · have hk := hid (swv_keep (l := p'.1) (k := (m : Int)) (by omega) e1 e2)
              have n1 : (nth p'.1 j == (m : Int) - 1) = false := by rw [beq_eq_false_iff_ne]; exact e1
              have n2 : (nth p'.1 j == (m : Int)) = false := by rw [beq_eq_false_iff_ne]; exact e2
              have ha' := hid ha
              have hb' := hid hb
              have hg' := hid hg
              clear hst hbs hgs e1 e2 hll ha hb hg hab
              go_wp2_with fail
              go_roundw
              case rel => exact ⟨j + 1, by omega, by go_num, by rw [hk.out]; exact ha'.out, hb'.out, hg'.out⟩
              case measure => simp [intOf]; omega
        case neg =>
          obtain rfl : j = n := by omega
          rw [List.take_of_length_le (by simp [hpl]), List.drop_of_length_le (by omega), List.append_nil, hbv.out] at ha
          have hia := hb.reads.idx 32 sliceI sizeI .i64 ((m : Int) - 1) (by omega) (by simp; omega)
          have hib := hb.reads.idx 32 sliceI sizeI .i64 (m : Int) (by omega) (by simp; omega)
          rw [show ((m : Int) - 1).toNat = m - 1 by omega] at hia
          simp only [Int.toNat_natCast] at hib
          have ca := hb.reads.cell (m - 1) _ (ints_at (by omega))
          have cb := hb.reads.cell m _ (ints_at (by omega))
          have fa := hb.frozen (i := m - 1) (by simp; omega)
          have fb := hb.frozen (i := m) (by simp; omega)
          have aa := (hb.adr_blk (i := m - 1) (by simp; omega))
          have ab := (hb.adr_blk (i := m) (by simp; omega))
          have hne := hb.adr_ne (i := m - 1) (j := m) (by simp; omega) (by omega)
          have hne2 := hb.adr_ne (i := m) (j := m - 1) (by simp; omega) (by omega)
          have hb1 := hb.set (i := m - 1) (by simp; omega) (.int .i64 (nth q'.1 m))
          have hst := (hb1.set (i := m) (by simp; omega) (.int .i64 (nth q'.1 (m - 1)))).drew
          rw [ints_set, ints_set] at hst
          have hsw : ((q'.1.set (m - 1) (nth q'.1 m)).set m (nth q'.1 (m - 1))) = Q'.1 := by rw [← hfv.out]; unfold swapAt; rw [show m - 1 + 1 = m by omega]
          rw [hsw] at hst
          have ha2 := ((ha.set_apart hb (fun k hk e => hap k e.symm hk.symm) (i := m - 1) (by simp; omega) (.int .i64 (nth q'.1 m))).set_apart hb1 (fun k hk e => hap k e.symm hk.symm) (i := m) (by simp; omega) (.int .i64 (nth q'.1 (m - 1)))).drew
          have hg2 := (((hg1.out.trans hg).set (p := adr b (m - 1)) (.inr aa.1) (.int .i64 (nth q'.1 m))).set (p := adr b m) (.inr ab.1) (.int .i64 (nth q'.1 (m - 1)))).drew
          replace hst := hid hst
          replace ha2 := hid ha2
          replace hg2 := hid hg2
          clear hb1 ha hb hg hsw hll
          go_wp2_with fail
          go_region
          go_wp2_with fail
          go_roundg (ni Q').toNat
          case rel => exact ⟨P', Q', t + 1, by simp, ha2.out, hst.out, hg2.out, hEq.out, by have := hp1'.out; have := hni.out; omega, by have := hq1'.out; have := hni.out; omega, by omega, Nat.le_refl _⟩
          case measure => have := hgk'.out; have := hni.out; have := ni_nonneg q'; omega


end Go.Proofs.Ytmeccemnmkobbaa
