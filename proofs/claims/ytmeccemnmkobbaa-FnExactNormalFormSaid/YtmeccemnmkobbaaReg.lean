/- Contracts: half twists are taken out at the beginning, identities at the end, in the program. -/
import Derived.Test.YtmeccemnmkobbaaRef
import Derived.Test.YtmeccemnmkobbaaSli
namespace Go.Proofs.Ytmeccemnmkobbaa
open Go.RowKit
open Pm

theorem blk_onwards {w : World} {B : Nat} {e : TypeId} {o : Value} {us : List Value} (h : Own w B e o us) (k : Nat) : blk (onwards o k) = blk o := by
  obtain ⟨a, c, ev, _⟩ := h.reads.form
  rw [onwards_part o us.length k ⟨a, c, ev⟩, blk_part]
theorem NB.tail {n : Nat} {w : World} {B : Nat} {o : Value} {us : List Value} {L : List (Pm n)} {p : Pm n} (h : NB w B o us (p :: L)) : NB w B (onwards o 1) (us.drop 1) L := by
  have hl := h.len
  have hv : ∀ i, vat (us.drop 1) i = vat us (i + 1) := fun i => by unfold vat; rw [List.getElem?_drop, Nat.add_comm]
  have hp : ∀ i, pat (p :: L) (i + 1) = pat L i := fun i => by simp [pat]
  have hlt : ∀ i, i < L.length → i + 1 < (p :: L).length := fun i hi => by simpa using hi
  refine ⟨h.own.onwards 1 (by rw [hl]; simp), by simp [hl], fun i hi => ?_, fun i j hij hi hj => ?_, fun i hi => ?_⟩
  · rw [hv, ← hp]; exact h.row (i + 1) (hlt i hi)
  · rw [hv, hv]; exact h.apart (i + 1) (j + 1) (by omega) (hlt i hi) (hlt j hj)
  · rw [hv]; exact (h.outer (i + 1) (hlt i hi)).of_blk (blk_onwards h.own 1)
theorem NB.init {n : Nat} {w : World} {B : Nat} {o : Value} {us : List Value} {L : List (Pm n)} {p : Pm n} (h : NB w B o us (L ++ [p])) : NB w B (upto o L.length) (us.take L.length) L := by
  have hl := h.len
  have hv : ∀ i, i < L.length → vat (us.take L.length) i = vat us i := fun i hi => by unfold vat; rw [List.getElem?_take, if_pos hi]
  have hp : ∀ i, i < L.length → pat (L ++ [p]) i = pat L i := fun i hi => by unfold pat; rw [List.getElem?_append_left hi]
  have hlt : ∀ i, i < L.length → i < (L ++ [p]).length := fun i hi => by simp; omega
  refine ⟨h.own.upto L.length (by rw [hl]; simp), by simp [hl], fun i hi => ?_, fun i j hij hi hj => ?_, fun i hi => ?_⟩
  · rw [hv i hi, ← hp i hi]; exact h.row i (hlt i hi)
  · rw [hv i hi, hv j hj]; exact h.apart i j hij (hlt i hi) (hlt j hj)
  · rw [hv i hi]; exact (h.outer i (hlt i hi)).of_blk (blk_upto o _)

set_option maxRecDepth 100000 in
set_option maxHeartbeats 8000000 in
theorem tidy_impl {n : Nat} (g : Nat) (pw : Int) (o : Value) (us : List Value) (L : List (Pm n)) (w : World) (B : Nat) (hB : B ≤ w.heap.size) (hgB : g < B) (hX : Bx w g [.int .i64 (n : Int), .int .i64 pw, o]) (h : NB w B o us L) (hwt : (gar n).Wt L) (hl : L.length ≤ 1048576) (hp0 : -1048576 ≤ pw) (hp1 : pw ≤ 1048576) (hn : n ≤ 12) :
    Calls Try.prog 137 #[.pointer (some ⟨g, 0, none⟩)] w fun e w' => ∃ o' us', e = .returned (.tuple #[]) ∧ NB w' B o' us' ((gar n).NF (pw, L)).2 ∧ Bx w' g [.int .i64 (n : Int), .int .i64 ((gar n).NF (pw, L)).1, o'] ∧ Below g w w' := by
  have hH := hid (fun (w' : World) => half_impl (n : Int) w' (by omega) (by omega))
  have hI := hid (fun (w' : World) => idn_impl (n : Int) w' (by omega) (by omega))
  simp only [Int.toNat_natCast] at hH hI
  have hK := hid (fun (w' : World) (hw : Below w.heap.size w w') => (hX.below hw).cell 0 rfl)
  have hX' := hid hX
  have hN' := hid h
  have hwt' := hid hwt
  have hdz : w.drew.heap.size = w.heap.size := rfl
  clear hX h hwt
  go_enter Try.func137, Try.ntmps137
  go_wp2_with fail
  go_region_held3 (fun w' => w'.cell? ⟨g, 0, none⟩ = some (.int .i64 (n : Int))) (first | exact hK.out _ (Below.refl _ _).drew | exact hK.out _ hbT | exact hK.out _ hbS) ((first | (go_at_call 61; refine (hH.out _).mono ?_; rintro e w3 ⟨x, rfl, hx, hs3⟩; have hbT : Below w.heap.size w w3 := by (first | exact (Below.refl _ w).drew.trans hs3 | exact hbS.trans (hs3.mono hbS.size))) | (go_at_call 60; refine (hI.out _).mono ?_; rintro e w4 ⟨y, rfl, hy, hs4⟩; have hbS : Below w.heap.size w w4 := by (first | exact (Below.refl _ w).drew.trans hs4 | exact hbT.trans (hs4.mono hbT.size)))))
  all_goals
    have hall : ∃ wE : World, True := ⟨w, trivial⟩
    clear hall
    first
      | (have hxE := hid (hx.below hs4); have hyE := hid hy; have hbE := hbS)
      | (have hyE := hid (hy.below hs3); have hxE := hid hx; have hbE := hbT)
    have hNE := hid (hN'.out.below hbE)
    have hXE := hid (hX'.out.below hbE)
    have hbE' := hid (hbE.mono (show g ≤ w.heap.size by omega))
    have hxE2 := hid (hxE.out.mono (B' := B) (by have := hs3.size; have := hs4.size; first | omega | (simp at *; omega)))
    have hyE2 := hid (hyE.out.mono (B' := B) (by have := hs3.size; have := hs4.size; first | omega | (simp at *; omega)))
    clear hK hX' hN' hx hy hxE hyE hbE hbS hbT hs3 hs4
    go_wp2_with fail
    go_loopg [] (L.length) (fun gk wr => ∃ (pw' : Int) (o : Value) (us : List Value) (M : List (Pm n)), NB wr B o us M ∧ Bx wr g [.int .i64 (n : Int), .int .i64 pw', o] ∧ Own wr B 2 x (ints (halfF n)) ∧ Own wr B 2 y (ints (idn n)) ∧ Below g w wr ∧ (gar n).NF (pw', M) = (gar n).NF (pw, L) ∧ (gar n).Wt M ∧ M.length ≤ gk ∧ M.length ≤ L.length ∧ pw ≤ pw' ∧ pw' + M.length ≤ pw + L.length)
    case atStart => exact ⟨pw, o, us, L, hNE.out, hXE.out, hxE2.out, hyE2.out, hbE'.out, rfl, hwt'.out, Nat.le_refl _, Nat.le_refl _, Int.le_refl _, Int.le_refl _⟩
    case round =>
      clear hNE hXE hxE2 hyE2 hbE'
      obtain ⟨pw', o, us, M, hN, hX, hx, hy, hb, hnf, hwt, hgk, hMl, hq0, hq1⟩ := hrel
      have hnf := hid hnf
      have hwt := hid hwt
      have hBw : B ≤ wr.heap.size := by have := hb.size; omega
      have hln := hN.own.reads.len (P := Try.prog) 22 3 ⟨_, sliceII⟩
      have hsm := hN.own.reads.small
      rw [hN.len] at hln hsm
      have A0 := hX.cell 0 rfl
      have A1 := hX.cell 1 rfl
      have A2 := hX.cell 2 rfl
      have key : (M = [] ∨ (∃ q M', M = q :: M' ∧ n < 2) ∨ (∃ q M', M = q :: M' ∧ 2 ≤ n ∧ q ≠ top n)) ∨ (∃ M', M = top n :: M' ∧ 2 ≤ n) := by
        cases M with
        | nil => exact .inl (.inl rfl)
        | cons q M' =>
          by_cases h2 : n < 2
          · exact .inl (.inr (.inl ⟨q, M', rfl, h2⟩))
          · by_cases h3 : q = top n
            · exact .inr ⟨M', by rw [h3], by omega⟩
            · exact .inl (.inr (.inr ⟨q, M', rfl, by omega, h3⟩))
      rcases key with hexit | ⟨M', rfl, h2⟩
      case inr =>
        have hi := hN.own.reads.idx 22 sliceII sizeSI .i64 0 (by omega) (by rw [hN.len]; simp)
        simp only [Int.toNat_zero] at hi
        have hc := hN.own.reads.cell 0 _ (vat_of (by rw [hN.len]; simp))
        have hrow := (hN.row 0 (by simp)).reads
        have hp0' : pat (top n :: M') 0 = top n := rfl
        rw [hp0', ← half_val] at hrow
        simp only [List.length_cons] at hln hsm hgk hMl hq1
        have hln' : ∀ w', Sem.run Try.prog (Builtin.len_ #[22] 3 #[o]) w' = .ok (.int .i64 ((M'.length : Int) + 1)) w' := fun w' => by rw [hln]; simp
        clear hln hp0'
        go_wp2_with fail
        refine (equal_impl _ _ _ _ _ hrow hx.reads).mono ?_
        rintro e w5 ⟨rfl, hs5⟩
        rw [show decide (halfF n = halfF n) = true from decide_eq_true rfl]
        have hX5 := hX.below hs5
        have hz5 := hs5.size
        have hN5 := (hN.below hs5).tail
        have hsl := hN.own.reads.onwards_run (P := Try.prog) sliceII sizeSI .i64 1 (by omega) (by rw [hN.len]; simp; omega)
        rw [show (1 : Int).toNat = 1 from rfl] at hsl
        generalize onwards o 1 = o2 at *
        obtain ⟨oa, on, oc, rfl⟩ := own_lit hN5.own
        have c0 := hX5.cell 0 rfl
        have c1 := hX5.cell 1 rfl
        have c2 := hX5.cell 2 rfl
        have f1 := hX5.frozen 1
        have f2 := hX5.frozen 2
        have hX6 := hid ((hX5.set 1 (.int .i64 (pw' + 1))).set 2 (.slice oa on oc))
        have hN6 := hid ((hN5.set_block hgB 1 (.int .i64 (pw' + 1))).set_block hgB 2 (.slice oa on oc))
        have hx6 := hid (((hx.below hs5).set_block hgB 1 (.int .i64 (pw' + 1))).set_block hgB 2 (.slice oa on oc))
        have hy6 := hid (((hy.below hs5).set_block hgB 1 (.int .i64 (pw' + 1))).set_block hgB 2 (.slice oa on oc))
        have hb5 := hid (hb.trans (hs5.mono (show g ≤ wr.heap.size by omega)))
        have hnf2 := hid ((gar n).NF_cons_top (top_ne_one h2) pw' M')
        have hwt2 := hid ((gar n).wt_tail hwt.out)
        clear hX5 hN5 hrow hc hN hX A0 A1 A2 hx hy hs5
        go_wp2_with fail
        go_roundg M'.length
        case rel => exact ⟨pw' + 1, .slice oa on oc, us.drop 1, M', hN6.out, hX6.out, hx6.out, hy6.out, (hb5.out.setCell (Nat.le_refl g) _).setCell (Nat.le_refl g) _, by rw [← hnf2.out]; exact hnf.out, hwt2.out, Nat.le_refl _, by omega, by omega, by omega⟩
        case measure => omega
      case inl =>
      rcases hexit with rfl | ⟨q, M', rfl, h2⟩ | ⟨q, M', rfl, h2, h3⟩
      case' inl =>
        have hhd := hid (Or.inr (by simp) : n < 2 ∨ ([] : List (Pm n)).head? ≠ some (top n))
        go_wp2_with fail
      case' inr.inl =>
        have hhd := hid (Or.inl h2 : n < 2 ∨ (q :: M').head? ≠ some (top n))
        have hln' : ∀ w', Sem.run Try.prog (Builtin.len_ #[22] 3 #[o]) w' = .ok (.int .i64 ((M'.length : Int) + 1)) w' := fun w' => by rw [hln]; simp
        replace hln := hid hln
        go_wp2_with fail
      case' inr.inr =>
        have hhd := hid (Or.inr (by simpa using h3) : n < 2 ∨ (q :: M').head? ≠ some (top n))
        have hi := hN.own.reads.idx 22 sliceII sizeSI .i64 0 (by omega) (by rw [hN.len]; simp)
        simp only [Int.toNat_zero] at hi
        have hc := hN.own.reads.cell 0 _ (vat_of (by rw [hN.len]; simp))
        have hrow := (hN.row 0 (by simp)).reads
        have hp0' : pat (q :: M') 0 = q := rfl
        rw [hp0'] at hrow
        have hln' : ∀ w', Sem.run Try.prog (Builtin.len_ #[22] 3 #[o]) w' = .ok (.int .i64 ((M'.length : Int) + 1)) w' := fun w' => by rw [hln]; simp
        replace hln := hid hln
        have h3' := hid (show ¬ q.1 = halfF n from fun e => h3 (Subtype.ext (e.trans (half_val n))))
        clear hp0' h3
        go_wp2_with fail
        refine (equal_impl _ _ _ _ _ hrow hx.reads).mono ?_
        rintro e w5 ⟨rfl, hs5⟩
        rw [decide_eq_false h3'.out]
        replace hX := hX.below hs5
        replace hN := hN.below hs5
        replace hy := hy.below hs5
        replace hb := hb.trans (hs5.mono (show g ≤ wr.heap.size by omega))
        replace hBw : B ≤ w5.heap.size := by have := hs5.size; omega
        clear hx hrow hc A0 A1 A2 hs5
        go_wp2_with fail
      all_goals
        go_loopg [] (L.length) (fun gk wr => ∃ (o : Value) (us : List Value) (M : List (Pm n)), NB wr B o us M ∧ Bx wr g [.int .i64 (n : Int), .int .i64 pw', o] ∧ Own wr B 2 y (ints (idn n)) ∧ Below g w wr ∧ (gar n).NF (pw', M) = (gar n).NF (pw, L) ∧ (gar n).Wt M ∧ (n < 2 ∨ M.head? ≠ some (top n)) ∧ M.length ≤ gk ∧ M.length ≤ L.length)
        case atStart => exact ⟨o, us, _, hN, hX, hy, hb, hnf.out, hwt.out, hhd.out, hMl, hMl⟩
        case round =>
          clear hN hX hy hb hnf hwt hhd hMl hgk hln hsm hq1
          obtain ⟨o, us, M, hN, hX, hy, hb, hnf, hwt, hhd, hgk, hMl⟩ := hrel
          replace hnf := hid hnf
          replace hwt := hid hwt
          replace hhd := hid hhd
          have hBw : B ≤ wr.heap.size := by have := hb.size; omega
          have hln := hN.own.reads.len (P := Try.prog) 22 3 ⟨_, sliceII⟩
          rw [hN.len] at hln
          have hdz : wr.drew.heap.size = wr.heap.size := rfl
          have hsplit : M = [] ∨ ∃ M' q, M = M' ++ [q] := by
            rcases List.eq_nil_or_concat M with e | ⟨M', q, e⟩
            · exact .inl e
            · exact .inr ⟨M', q, by rw [e, List.concat_eq_append]⟩
          rcases hsplit with rfl | ⟨M', q, rfl⟩
          · have A2 := hX.cell 2 rfl
            have hres : (gar n).NF (pw, L) = (pw', []) := by rw [← hnf.out]; exact (gar n).NF_done (L := []) hwt.out (by simp) (by simp) _
            have e1 : ((gar n).NF (pw, L)).1 = pw' := by rw [hres]
            have e2 : ((gar n).NF (pw, L)).2 = [] := by rw [hres]
            have hX' := hid hX
            have hN' := hid hN
            have hb' := hid hb
            replace hres := hid hres
            replace e1 := hid e1
            replace e2 := hid e2
            clear hX hN hb
            go_wp2_with fail
            go_quiet (fail)
            go_wp2_with fail
            exact bodyPost_end (v := .tuple #[]) (by simp [results, Try.results137, go_sem]) rfl ⟨o, us, rfl, by rw [e2.out]; exact hN'.out.below (below_drewN (Below.refl _ _) _), by rw [e1.out]; exact hX'.out.drewN _, below_drewN hb'.out _⟩
          · have hln' : ∀ w', Sem.run Try.prog (Builtin.len_ #[22] 3 #[o]) w' = .ok (.int .i64 ((M'.length : Int) + 1)) w' := fun w' => by rw [hln]; simp
            have hlM : M'.length + 1 ≤ L.length := by simpa using hMl
            have hi := hN.own.reads.idx 22 sliceII sizeSI .i64 (M'.length : Int) (by omega) (by rw [hN.len]; simp; omega)
            simp only [Int.toNat_natCast] at hi
            have hw2 := Go.IntWalk.i64_in (M'.length : Int) (by omega)
            have hw3 : (M'.length : Int) + 1 - 1 = M'.length := by omega
            have hw1 : IntKind.i64.wrap ((M'.length : Int) + 1 - 1) = M'.length := by rw [hw3]; exact hw2
            have hrow := (hN.row M'.length (by simp)).reads
            have hpq : pat (M' ++ [q]) M'.length = q := by simp [pat]
            rw [hpq] at hrow
            have hK := hid (fun (w' : World) (hw : Below wr.heap.size wr w') => (⟨(hX.below hw).cell 2 rfl, (hN.own.reads.below hw).cell M'.length _ (vat_of (by rw [hN.len]; simp))⟩ : w'.cell? ⟨g, 2, none⟩ = some o ∧ w'.cell? (adr o M'.length) = some (vat us M'.length)))
            have hE := hid (equal_impl _ _ _ _ wr.drew (hrow.drewN 1) (hy.reads.drewN 1))
            have hX' := hid hX
            have hN' := hid hN
            have hb' := hid hb
            have hy' := hid hy
            replace hln := hid hln
            clear hX hN hb hy hrow hpq hMl hw3
            by_cases hq : q = one n
            · rw [decide_eq_true (by rw [hq, idn_val] : q.1 = idn n)] at hE
              replace hq := hid hq
              go_wp2_with fail
              go_region_held3 (fun w' => w'.cell? ⟨g, 2, none⟩ = some o ∧ w'.cell? (adr o M'.length) = some (vat us M'.length)) (first | exact hK.out _ (Below.refl _ _).drew | exact hK.out _ hbS) ((first | (go_at_call 59; refine hE.out.mono ?_; rintro e w6 ⟨rfl, hs6⟩; have hbS : Below wr.heap.size wr w6 := (Below.refl _ wr).drew.trans hs6)))
              all_goals
                have hX6 := hX'.out.below hbS
                have hN6 := (hN'.out.below hbS).init
                have hsl := hN'.out.own.reads.upto_run (P := Try.prog) sliceII sizeSI .i64 (M'.length : Int) (by omega) (by rw [hN'.out.len]; simp; omega)
                simp only [Int.toNat_natCast] at hsl
                generalize upto o M'.length = o2 at *
                obtain ⟨oa, on, oc, rfl⟩ := own_lit hN6.own
                have c2 := hX6.cell 2 rfl
                have f2 := hX6.frozen 2
                have hX7 := hid ((hX6.set 2 (.slice oa on oc)).drew)
                have hN7 := hid ((hN6.set_block hgB 2 (.slice oa on oc)).below (Below.refl _ _).drew)
                have hy7 := hid (((hy'.out.below hbS).set_block hgB 2 (.slice oa on oc)).drew)
                have hb7 := hid ((((hb'.out.trans (hbS.mono (show g ≤ wr.heap.size by omega))).setCell (p := ⟨g, 2, none⟩) (Nat.le_refl g) (.slice oa on oc))).drew)
                have hnf7 := hid (show (gar n).NF (pw', M') = (gar n).NF (pw, L) by rw [← hnf.out, hq.out]; exact ((gar n).NF_end_one pw' M').symm)
                have hwt7 := hid ((gar n).wt_init hwt.out)
                have hhd7 := hid (show n < 2 ∨ M'.head? ≠ some (top n) by
                  rcases hhd.out with e | e
                  · exact .inl e
                  · refine .inr fun e2 => e ?_
                    cases M' with
                    | nil => simp at e2
                    | cons z Z => simpa using e2)
                clear hX6 hN6 hK hE hX' hN' hy' hb'
                go_wp2_with fail
                go_region
                go_wp2_with fail
                go_roundg M'.length
                case rel => exact ⟨.slice oa on oc, us.take M'.length, M', hN7.out, hX7.out, hy7.out, hb7.out, hnf7.out, hwt7.out, hhd7.out, Nat.le_refl _, by omega⟩
                case measure => simp at hgk; omega
            · rw [decide_eq_false (fun e => hq (Subtype.ext (e.trans (idn_val n))) : ¬ q.1 = idn n)] at hE
              replace hq := hid hq
              go_wp2_with fail
              go_region_held3 (fun w' => w'.cell? ⟨g, 2, none⟩ = some o ∧ w'.cell? (adr o M'.length) = some (vat us M'.length)) (first | exact hK.out _ (Below.refl _ _).drew | exact hK.out _ hbS) ((first | (go_at_call 59; refine hE.out.mono ?_; rintro e w6 ⟨rfl, hs6⟩; have hbS : Below wr.heap.size wr w6 := (Below.refl _ wr).drew.trans hs6)))
              all_goals
                have hres := (gar n).NF_done (L := M' ++ [q]) hwt.out (by
                  rcases hhd.out with e | e
                  · exact absurd (all_one e q) hq.out
                  · exact e) (fun e => by
                  have e3 : (M' ++ [q]).getLast? = some q := by simp
                  rw [e3] at e
                  exact hq.out (Option.some.inj e)) pw'
                rw [hnf.out] at hres
                have e1 := hid (show ((gar n).NF (pw, L)).1 = pw' by rw [hres])
                have e2 := hid (show ((gar n).NF (pw, L)).2 = M' ++ [q] by rw [hres])
                have hbz := hid hbS
                clear hres hK hE
                go_wp2_with fail
                exact bodyPost_end (v := .tuple #[]) (by simp [results, Try.results137, go_sem]) rfl ⟨o, us, rfl, by rw [e2.out]; exact hN'.out.below hbz.out, by rw [e1.out]; exact hX'.out.below hbz.out, hb'.out.trans (hbz.out.mono (by omega))⟩


end Go.Proofs.Ytmeccemnmkobbaa
