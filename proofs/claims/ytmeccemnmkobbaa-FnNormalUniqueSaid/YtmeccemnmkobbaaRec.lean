/- Contracts: lists of permutations are made left-weighted, in the reference. -/
import Derived.Test.YtmeccemnmkobbaaReb
namespace Go.Proofs.Ytmeccemnmkobbaa
open Go.RowKit
open Pm

/-- the state of a list under way: the call's own slice f with rows -/
structure SetC {n : Nat} (w wr : World) (f : Value) (lo : Nat) (L : List (Pm n)) (vs : List Value) : Prop where
  own : Own wr w.heap.size 32 f vs
  rows : RowsB wr lo vs (vals L)
  ap : ∀ i, i < L.length → Apart (vat vs i) f
  below : Below w.heap.size w wr
theorem SetC.len {n : Nat} {w wr : World} {f : Value} {lo : Nat} {L : List (Pm n)} {vs : List Value} (h : SetC w wr f lo L vs) : vs.length = L.length := by
  have := h.rows.rows.len; simpa using this
theorem SetC.next {n : Nat} {w wr w' : World} {f : Value} {lo : Nat} {L : List (Pm n)} {vs : List Value} (h : SetC w wr f lo L vs) (hb : Below wr.heap.size wr w') : SetC w w' f lo L vs :=
  ⟨h.own.below hb, h.rows.below hb, h.ap, h.below.trans (hb.mono h.below.size)⟩
theorem SetC.row {n : Nat} {w wr : World} {f : Value} {lo : Nat} {L : List (Pm n)} {vs : List Value} (h : SetC w wr f lo L vs) {i : Nat} (hi : i < L.length) : Reads wr (vat vs i) (ints (pat L i).1) := by
  have := h.rows.rows.row i (by simpa using hi)
  rwa [rat_vals hi] at this
theorem SetC.set {n : Nat} {w wr w' : World} {f : Value} {lo : Nat} {L : List (Pm n)} {vs : List Value} (h : SetC w wr f lo L vs) (hb : Below wr.heap.size wr w') (hlo : lo ≤ w.heap.size) {i : Nat} (hi : i < L.length) {u : Value} {p : Pm n}
    (hu : Own w' wr.heap.size 2 u (ints p.1)) : SetC w (w'.setCell (adr f i) u) f lo (L.set i p) (vs.set i u) := by
  have hsz := h.below.size
  obtain ⟨a, b, c⟩ := h.rows.set h.own (fun j hj => h.ap j (by simpa using hj)) hb (i := i) (by simpa using hi) (ei := 2) hu (by omega)
  refine ⟨a, ?_, ?_, (h.below.trans (hb.mono hsz)).setCell ((h.own.adr_blk (i := i) (by rw [h.len]; exact hi)).2.1) u⟩
  · rw [vals_set]; exact b
  · intro j hj; exact c j (by simpa using hj)
theorem mid_of_one {n : Nat} {p : Pm n} (h : p = one n) : (gar n).mid p = false := by
  have e : p = (gar n).one := h
  simp [Gar.mid, e]
theorem mid_of_top {n : Nat} {p : Pm n} (h : p = top n) : (gar n).mid p = false := by
  have e : p = (gar n).top := h
  simp [Gar.mid, e]
theorem mid_of_no {n : Nat} {p : Pm n} (h : ¬ p = one n) (h2 : ¬ p = top n) : (gar n).mid p = true := by
  have e : ¬ p = (gar n).one := h
  have e2 : ¬ p = (gar n).top := h2
  simp [Gar.mid, e, e2]
theorem RowsB.snoc {w : World} {lo : Nat} {vs : List Value} {ls : List (List Int)} {v : Value} {l : List Int} (h : RowsB w lo vs ls) (hv : Reads w v (ints l)) (hb : ∀ k, blk v = some k → lo ≤ k ∧ k < w.heap.size) : RowsB w lo (vs ++ [v]) (ls ++ [l]) := by
  have hl := h.rows.len
  refine ⟨⟨by simp [hl], fun i hi => ?_⟩, fun i hi k hk => ?_⟩
  · rw [List.length_append, List.length_singleton] at hi
    by_cases e : i < ls.length
    · rw [vat_snoc (by omega), rat_snoc e]; exact h.rows.row i e
    · obtain rfl : i = ls.length := by omega
      rw [rat_last, ← hl, vat_last]; exact hv
  · rw [List.length_append, List.length_singleton] at hi
    by_cases e : i < ls.length
    · rw [vat_snoc (by omega)] at hk; exact h.blks i e k hk
    · obtain rfl : i = ls.length := by omega
      rw [← hl, vat_last] at hk; exact hb k hk
def exl {n : Nat} (L : List (Pm n)) (j : Nat) : Int := extraF (pat L j).1 (pat L (j + 1)).1
theorem Pm.small {n : Nat} (p : Pm n) : ∀ i, i < p.1.length → 0 ≤ nth p.1 i ∧ nth p.1 i < p.1.length := p.2.2.range

theorem SetC.extra {n : Nat} {w wr : World} {f : Value} {lo : Nat} {L : List (Pm n)} {vs : List Value} (h : SetC w wr f lo L vs) (hn : n ≤ 12) {j : Nat} (hj : j + 1 < L.length) :
    Calls Try.prog 110 #[vat vs j, vat vs (j + 1)] wr.drew fun e w' => e = .returned (.int .i64 (exl L j)) ∧ Below wr.drew.heap.size wr.drew w' :=
  extra_spec _ _ _ _ _ ((h.row (by omega)).drewN 1) ((h.row hj).drewN 1) (by rw [Pm.len]; omega) (by rw [Pm.len]; omega) (Pm.small _)


set_option maxRecDepth 100000 in
set_option maxHeartbeats 8000000 in
theorem settle_spec {n : Nat} (v : Value) (vs : List Value) (L : List (Pm n)) (w : World) (lo : Nat) (hlo : lo ≤ w.heap.size) (h : Reads w v vs) (hr : RowsB w lo vs (vals L)) (hl : L.length ≤ 1048576) (hn : n ≤ 12) :
    Calls Try.prog 105 #[.int .i64 (n : Int), v] w fun e w' => ∃ u us, e = .returned (.tuple #[.int .i64 ((gar n).NF (0, L)).1, u]) ∧ Own w' w.heap.size 32 u us ∧ RowsB w' lo us (vals ((gar n).NF (0, L)).2) ∧ Below w.heap.size w w' ∧ 0 ≤ ((gar n).NF (0, L)).1 ∧ ((gar n).NF (0, L)).1 ≤ L.length := by
  have hvl : vs.length = L.length := by have := hr.rows.len; simpa using this
  have hone : ∀ y ∈ vs, y.oneCell' = true := by
    intro y hy
    obtain ⟨i, hi, rfl⟩ := List.mem_iff_getElem.1 hy
    have := hr.rows.row i (by have := hr.rows.len; omega)
    obtain ⟨a, c, e, -⟩ := this.form
    have e2 : vs[i] = vat vs i := by simp [vat, hi]
    rw [e2, e]; rfl
  obtain ⟨f, w1, hrun, hf, hg⟩ := app_run (ty := 22) sliceII infoSI rfl (own_empty w 32 (B := w.heap.size) (Nat.le_refl _)) (h.below ((Below.refl _ _).alloc (Nat.le_refl _) (.cells #[] 32))) hone (by simp) (by simp; omega) (by decide)
  simp only [List.nil_append] at hf
  have hb0 : Below w.heap.size w w1 := ((Below.refl _ _).alloc (Nat.le_refl _) _).grown hg (by simp) (fun k hk => by simp [blk] at hk; omega)
  have hC : SetC w w1 f lo L vs := ⟨hf, hr.below hb0, fun i hi k hk e => by
    have h1 := hr.blks i (by simpa using hi) k hk
    have h2 := (hf.blk_lt e.symm).1
    omega, hb0⟩
  obtain ⟨fa, fc, rfl⟩ := hf.form3'
  have hfl : (vs.length : Nat) = L.length := hvl
  clear hf hone hg hb0 hr h
  go_enter Try.func105, Try.ntmps105
  go_wp2_with (at_builtin; refine wpList_app hrun rfl _ _ rfl rfl rfl ?_)
  clear hrun
  rw [hfl] at hC
  generalize hfe : Value.slice fa L.length fc = f at *
  have hF := hid (⟨fa, L.length, fc, hfe.symm⟩ : ∃ a m c, f = .slice a m c)
  clear hvl hfl
  have hlen : ∀ (wr : World) (L' : List (Pm n)) (us : List Value), SetC w wr f lo L' us → L'.length = L.length → ∀ w', Sem.run Try.prog (Builtin.len_ #[22] 3 #[f]) w' = .ok (.int .i64 (L.length : Int)) w' := by
    intro wr L' us hc hl' w'
    have := hc.own.reads.len (P := Try.prog) 22 3 ⟨_, sliceII⟩ w'
    rw [hc.len, hl'] at this; exact this
  replace hlen := hid hlen
  clear hfe
  go_loopg [7, 8, 9] (far 0 L + 1).toNat (fun g b _ _ wr => ∃ L' us, SetC w wr f lo L' us ∧ L'.length = L.length ∧ (gar n).Eqv L L' ∧ ((b = .bool true ∧ (far 0 L' + 1).toNat ≤ g) ∨ (b = .bool false ∧ ∀ t, t + 1 < L.length → exl L' t = 0)))
  case atStart => exact ⟨L, vs, hC, rfl, (gar n).eqv_refl _, .inl ⟨rfl, Nat.le_refl _⟩⟩
  case round =>
    clear hC
    obtain ⟨L', us, hC, hLl, hE, hbb⟩ := hrel
    rcases hbb with ⟨rfl, hg⟩ | ⟨rfl, hfin⟩
    case inr =>
      have hln := hlen.out _ _ _ hC hLl
      replace hfin := hid hfin
      replace hE := hid hE
      rename World => wF
      have hC0 := hid hC
      have hnf := hid (NF_of hE.out fun i hi => hfin.out i (by omega))
      clear hfin hE
      go_wp2_with fail
      go_loopw [10, 11, 12] (fun pw o i wr => ∃ (j : Nat) (us2 : List Value), j ≤ L.length ∧ i = .int .i64 j ∧ pw = .int .i64 ((gar n).tops (L'.take j)) ∧ Own wr wF.heap.size 32 o us2 ∧ RowsB wF lo us2 (vals ((L'.take j).filter (gar n).mid)) ∧ Below wF.heap.size wF wr) (fun _ _ i _ => L.length - (intOf i).toNat)
      case atStart => exact ⟨0, [], by omega, rfl, rfl, own_empty wF _ (Nat.le_refl _), ⟨⟨rfl, fun i hi => absurd hi (by simp [vals])⟩, fun i hi => absurd hi (by simp [vals])⟩, (Below.refl _ _).alloc (Nat.le_refl _) _⟩
      case round =>
        clear hC
        obtain ⟨j, us2, hj, rfl, rfl, ho, hrr, hb⟩ := hrel
        by_cases hlt : j < L.length
        case neg =>
          obtain rfl : j = L.length := by omega
          rw [List.take_of_length_le (by omega)] at hrr ⊢
          have e1 : ((gar n).NF (0, L)).1 = (gar n).tops L' := by rw [hnf.out]
          have e2 : ((gar n).NF (0, L)).2 = L'.filter (gar n).mid := by rw [hnf.out]
          go_wp2_with fail
          refine bodyPost_ret (v := .tuple #[.int .i64 ((gar n).tops L'), u11]) (by simp [results, Try.results105, go_sem]) rfl ⟨_, _, by rw [e1], ho.mono hC0.out.below.size, by rw [e2]; exact hrr.below hb, hC0.out.below.trans (hb.mono hC0.out.below.size), by rw [e1]; have := tops_le L'; omega⟩
        case pos =>
        have hi := hC0.out.own.reads.idx 22 sliceII sizeSI .i64 j (by omega) (by rw [hC0.out.len]; omega)
        simp only [Int.toNat_natCast] at hi
        have hK := hid (fun (w' : World) (hw : Below wr.heap.size wr w') => (hC0.out.own.reads.below (hb.trans (hw.mono hb.size))).cell j _ (vat_of (by rw [hC0.out.len]; omega)))
        have hR := hid (fun (w' : World) (hw : Below wr.heap.size wr w') => (hC0.out.next (hb.trans (hw.mono hb.size))).row (i := j) (by omega))
        have hbk := hid (hC0.out.rows.blks j (by simp; omega))
        have htp := tops_le (L'.take j)
        have htn := hid (tops_take (L := L') (k := j) (by omega))
        have hfn := hid (filter_take (L := L') (k := j) (by omega) (gar n).mid)
        rw [List.length_take, show min j L'.length = j by omega] at htp
        have hI := hid (fun (w' : World) => id4_spec (n : Int) w' (by omega) (by omega))
        have hH := hid (fun (w' : World) => half_spec (n : Int) w' (by omega) (by omega))
        simp only [Int.toNat_natCast] at hI hH
        have hfll : ((L'.take j).filter (gar n).mid).length ≤ L'.length := Nat.le_trans (List.length_filter_le _ _) (by simp; omega)
        have hrF := hid (hC0.out.row (i := j) (by omega))
        generalize pat L' j = p at *
        generalize (gar n).tops (L'.take j) = tp at *
        generalize (L'.take j).filter (gar n).mid = fl at *
        have hdz : wr.drew.heap.size = wr.heap.size := rfl
        replace hb := hid hb
        replace ho := hid ho
        replace hrr := hid hrr
        by_cases h1 : p = one n
        case pos =>
          have hS := hid (fun (w' : World) (hw : Below wr.heap.size wr w') (x : Value) (hx : Reads w' x (ints (idn n))) => by have := is_spec _ _ _ _ _ (hR.out w' hw) hx; rw [decide_eq_true (by rw [h1, idn_val] : p.1 = idn n)] at this; exact this)
          have h2 := hid (mid_of_one h1)
          have h1 := hid h1
          go_wp2_with fail
          go_region_held3 (fun w' => w'.cell? (adr f j) = some (vat us j)) (first | exact hK.out _ (Below.refl _ _).drew | exact hK.out _ hbT | exact hK.out _ hbS) ((first | (go_at_call 109; refine (hI.out _).mono ?_; rintro e w3 ⟨x, rfl, hx, hs3⟩; have hbS : Below wr.heap.size wr w3 := (Below.refl _ wr).drew.trans hs3) | (go_at_call 108; refine (hS.out _ hbS _ hx.reads).mono ?_; rintro e w4 ⟨rfl, hs4⟩; have hbT : Below wr.heap.size wr w4 := hbS.trans (hs4.mono hbS.size))))
          all_goals
            go_wp2_with fail
            go_roundw
            case rel => exact ⟨j + 1, us2, by omega, by go_num, by rw [htn.out, if_neg (fun h => h.1 h1.out)]; simp, ho.out.below hbT, by rw [hfn.out, h2.out]; simpa using hrr.out, hb.out.trans (hbT.mono hb.out.size)⟩
            case measure => simp [intOf]; omega
        case neg =>
        have hS := hid (fun (w' : World) (hw : Below wr.heap.size wr w') (x : Value) (hx : Reads w' x (ints (idn n))) => by have := is_spec _ _ _ _ _ (hR.out w' hw) hx; rw [decide_eq_false (fun e => h1 (Subtype.ext (e.trans (idn_val n))) : ¬ p.1 = idn n)] at this; exact this)
        by_cases h3 : p = top n
        case pos =>
          have hS2 := hid (fun (w' : World) (hw : Below wr.heap.size wr w') (x : Value) (hx : Reads w' x (ints (halfF n))) => by have := is_spec _ _ _ _ _ (hR.out w' hw) hx; rw [decide_eq_true (by rw [h3, half_val] : p.1 = halfF n)] at this; exact this)
          have h2 := hid (mid_of_top h3)
          have h1 := hid h1
          have h3 := hid h3
          go_wp2_with fail
          go_region_held3 (fun w' => w'.cell? (adr f j) = some (vat us j)) (first | exact hK.out _ (Below.refl _ _).drew | exact hK.out _ hbT | exact hK.out _ hbS) ((first | (go_at_call 109; refine (hI.out _).mono ?_; rintro e w3 ⟨x, rfl, hx, hs3⟩; have hbS : Below wr.heap.size wr w3 := (Below.refl _ wr).drew.trans hs3) | (go_at_call 108; refine (hS.out _ hbS _ hx.reads).mono ?_; rintro e w4 ⟨rfl, hs4⟩; have hbT : Below wr.heap.size wr w4 := hbS.trans (hs4.mono hbS.size))))
          all_goals
            have hdz4 : w4.drew.heap.size = w4.heap.size := rfl
            go_wp2_with fail
            go_region_held3 (fun w' => w'.cell? (adr f j) = some (vat us j)) (first | exact hK.out _ hbT.drew | exact hK.out _ hbU | exact hK.out _ hbV) ((first | (go_at_call 83; refine (hH.out _).mono ?_; rintro e w5 ⟨y, rfl, hy, hs5⟩; have hbV : Below wr.heap.size wr w5 := hbT.drew.trans (hs5.mono hbT.size)) | (go_at_call 108; refine (hS2.out _ hbV _ hy.reads).mono ?_; rintro e w6 ⟨rfl, hs6⟩; have hbU : Below wr.heap.size wr w6 := hbV.trans (hs6.mono hbV.size))))
            all_goals
              go_wp2_with fail
              go_roundw
              case rel => exact ⟨j + 1, us2, by omega, by go_num, by rw [htn.out, if_pos ⟨h1.out, h3.out⟩], ho.out.below hbU, by rw [hfn.out, h2.out]; simpa using hrr.out, hb.out.trans (hbU.mono hb.out.size)⟩
              case measure => simp [intOf]; omega
        case neg =>
          have hS2 := hid (fun (w' : World) (hw : Below wr.heap.size wr w') (x : Value) (hx : Reads w' x (ints (halfF n))) => by have := is_spec _ _ _ _ _ (hR.out w' hw) hx; rw [decide_eq_false (fun e => h3 (Subtype.ext (e.trans (half_val n))) : ¬ p.1 = halfF n)] at this; exact this)
          have h2 := hid (mid_of_no h1 h3)
          have h1 := hid h1
          have h3 := hid h3
          go_wp2_with fail
          go_region_held3 (fun w' => w'.cell? (adr f j) = some (vat us j)) (first | exact hK.out _ (Below.refl _ _).drew | exact hK.out _ hbT | exact hK.out _ hbS) ((first | (go_at_call 109; refine (hI.out _).mono ?_; rintro e w3 ⟨x, rfl, hx, hs3⟩; have hbS : Below wr.heap.size wr w3 := (Below.refl _ wr).drew.trans hs3) | (go_at_call 108; refine (hS.out _ hbS _ hx.reads).mono ?_; rintro e w4 ⟨rfl, hs4⟩; have hbT : Below wr.heap.size wr w4 := hbS.trans (hs4.mono hbS.size))))
          all_goals
            have hdz4 : w4.drew.heap.size = w4.heap.size := rfl
            go_wp2_with fail
            go_region_held3 (fun w' => w'.cell? (adr f j) = some (vat us j)) (first | exact hK.out _ hbT.drew | exact hK.out _ hbU | exact hK.out _ hbV) ((first | (go_at_call 83; refine (hH.out _).mono ?_; rintro e w5 ⟨y, rfl, hy, hs5⟩; have hbV : Below wr.heap.size wr w5 := hbT.drew.trans (hs5.mono hbT.size)) | (go_at_call 108; refine (hS2.out _ hbV _ hy.reads).mono ?_; rintro e w6 ⟨rfl, hs6⟩; have hbU : Below wr.heap.size wr w6 := hbV.trans (hs6.mono hbV.size))))
            all_goals
              have hcU := hK.out _ hbU
              have hRU := hR.out _ hbU
              obtain ⟨ua, un, uc, hu⟩ : ∃ a m c, vat us j = Value.slice a m c := by obtain ⟨a, c, e, -⟩ := hRU.form; exact ⟨a, _, c, e⟩
              generalize vat us j = vj at *
              subst hu
              have hvl2 := hrr.out.rows.len
              rw [length_vals] at hvl2
              have hbw := hb.out.trans (hbU.mono hb.out.size)
              obtain ⟨v', w7, hrun, hown', hb'⟩ := app_one (ty := 22) (x := .slice ua un uc) sliceII infoSI rfl (ho.out.below hbU) rfl hbw.size (by omega) (by decide) hbw (Nat.le_refl _)
              clear hvl2
              go_wp2_with (at_builtin; refine wpList_app hrun rfl _ _ rfl rfl rfl ?_)
              go_roundw
              case rel =>
                refine ⟨j + 1, us2 ++ [.slice ua un uc], by omega, by go_num, by rw [htn.out, if_neg (fun h => h3.out h.2)]; simp, hown', ?_, hb'⟩
                rw [hfn.out, h2.out, vals_append]
                exact hrr.out.snoc hrF.out hbk.out
              case measure => simp [intOf]; omega
    case inl =>
    replace hE := hid hE
    go_wp2_with fail
    go_loopw [7, 8, 9] (fun b i _ wr => ∃ (j : Nat) (M : List (Pm n)) (us : List Value), j ≤ L.length ∧ i = .int .i64 j ∧ SetC w wr f lo M us ∧ M.length = L.length ∧ (gar n).Eqv L M ∧ ((b = .bool false ∧ M = L' ∧ ∀ t, t < j → t + 1 < L.length → exl M t = 0) ∨ (b = .bool true ∧ far 0 M < far 0 L'))) (fun _ i _ _ => L.length - (intOf i).toNat)
    case atStart => exact ⟨0, L', us, by omega, rfl, hC, hLl, hE.out, .inl ⟨rfl, rfl, by omega⟩⟩
    case round =>
      clear hE hC us
      obtain ⟨j, M, us, hj, rfl, hC, hMl, hE, hbb⟩ := hrel
      replace hbb := hid hbb
      replace hE := hid hE
      have hln := hlen.out _ _ _ hC hMl
      by_cases hlt : j + 1 < L.length
      case neg =>
        go_wp2_with fail
        rcases hbb.out with ⟨rfl, rfl, hz⟩ | ⟨rfl, hlt2⟩
        · go_roundg 0
          case rel => exact ⟨M, us, hC, hMl, hE.out, .inr ⟨rfl, fun t ht => hz t (by omega) ht⟩⟩
          case measure => have := far_nonneg 0 M; omega
        · go_roundg (far 0 M + 1).toNat
          case rel => exact ⟨M, us, hC, hMl, hE.out, .inl ⟨rfl, by omega⟩⟩
          case measure => have := far_nonneg 0 M; omega
      case pos =>
      have hi := hC.own.reads.idx 22 sliceII sizeSI .i64 j (by omega) (by rw [hC.len]; omega)
      have hi2 := hC.own.reads.idx 22 sliceII sizeSI .i64 ((j : Int) + 1) (by omega) (by rw [hC.len]; omega)
      rw [show ((j : Int) + 1).toNat = j + 1 by omega] at hi2
      have hw1 := Go.IntWalk.i64_in ((j : Int) + 1) (by omega)
      simp only [Int.toNat_natCast] at hi
      have hK := hid (fun (w' : World) (hw : Below wr.heap.size wr w') => (⟨(hC.own.reads.below hw).cell j _ (vat_of (by rw [hC.len]; omega)), (hC.own.reads.below hw).cell (j + 1) _ (vat_of (by rw [hC.len]; omega))⟩ : w'.cell? (adr f j) = some (vat us j) ∧ w'.cell? (adr f (j + 1)) = some (vat us (j + 1))))
      have hX := hid (hC.extra hn (j := j) (by omega))
      replace hC := hid hC
      have hdz : wr.drew.heap.size = wr.heap.size := rfl
      clear hj
      go_wp2_with fail
      go_region_held3 (fun w' => w'.cell? (adr f j) = some (vat us j) ∧ w'.cell? (adr f (j + 1)) = some (vat us (j + 1))) (first | exact hK.out _ (Below.refl _ _).drew | exact hK.out _ hbS) ((first | (go_at_call 110; refine hX.out.mono ?_; rintro e w3 ⟨rfl, hs3⟩; have hbS : Below wr.heap.size wr w3 := (Below.refl _ wr).drew.trans hs3)))
      all_goals
        clear hX hK
        replace hC := hid (hC.out.next hbS)
        go_wp2_with fail
        go_loopg [7, 9] (far 0 M).toNat (fun g b x wr => ∃ (N : List (Pm n)) (us : List Value), SetC w wr f lo N us ∧ N.length = L.length ∧ (gar n).Eqv L N ∧ ((b = .bool false ∧ N = L' ∧ ∀ t, t < j → t + 1 < L.length → exl N t = 0) ∨ (b = .bool true ∧ far 0 N < far 0 L')) ∧ x = .int .i64 (exl N j) ∧ (far 0 N).toNat ≤ g)
        case atStart => exact ⟨M, us, hC.out, hMl, hE.out, hbb.out, rfl, Nat.le_refl _⟩
        case round =>
          clear hE hC hMl hbb hln hi hi2 hbS hs3
          obtain ⟨N, us, hC, hNl, hE, hbb, rfl, hgN⟩ := hrel
          replace hE := hid hE
          replace hbb := hid hbb
          by_cases hx : exl N j = 0
          · rw [hx]
            go_wp2_with fail
            go_roundw
            case rel =>
              refine ⟨j + 1, N, us, by omega, by go_num, hC, hNl, hE.out, ?_⟩
              rcases hbb.out with ⟨e1, e2, hz⟩ | ⟨e1, e2⟩
              · refine .inl ⟨e1, e2, fun t ht htl => ?_⟩
                by_cases e : t = j
                · rw [e]; exact hx
                · exact hz t (by omega) htl
              · exact .inr ⟨e1, e2⟩
            case measure => simp [intOf]; omega
          · obtain ⟨k, hkn, hk0, hke, hle, hrd⟩ := extra_ne (pat N j) (pat N (j + 1)) hx
            have hke' : exl N j = (k : Int) := hke
            obtain ⟨hEq, hfar⟩ := move_at (L := N) (i := j) (by omega) hkn hk0 hle hrd
            rw [hke']
            have hkk : ((k : Int) != 0) = true := by rw [bne_iff_ne]; omega
            clear hx hke hle hrd
            have hlj : j < N.length := by omega
            have hlj1 : j + 1 < N.length := by omega
            have hi := hC.own.reads.idx 22 sliceII sizeSI .i64 j (by omega) (by rw [hC.len]; omega)
            simp only [Int.toNat_natCast] at hi
            have hi2 := hC.own.reads.idx 22 sliceII sizeSI .i64 ((j : Int) + 1) (by omega) (by rw [hC.len]; omega)
            rw [show ((j : Int) + 1).toNat = j + 1 by omega] at hi2
            have hc := hC.own.reads.cell j _ (vat_of (by rw [hC.len]; omega))
            have hrow := hC.row hlj
            replace hC := hid hC
            replace hEq := hid hEq
            replace hfar := hid hfar
            go_wp2_with fail
            refine (behind_spec (k : Int) _ _ _ hrow (by rw [Pm.len]; omega) (by omega) (by omega)).mono ?_
            rintro e w3 ⟨x, rfl, hx, hs3⟩
            rw [back_val (pat N j) hkn hk0] at hx
            obtain ⟨xa, xn, xc, rfl⟩ : ∃ a m c, x = Value.slice a m c := by obtain ⟨a, c, e⟩ := hx.form3'; exact ⟨a, _, c, e⟩
            have hC3 := hC.out.next hs3
            have hc3 := hC3.own.reads.cell j _ (vat_of (by rw [hC3.len]; omega))
            have hf3 := hC3.own.frozen (i := j) (by rw [hC3.len]; omega)
            have hS := hC.out.set hs3 hlo hlj (p := mul (pat N j) (sg n k hkn)) hx
            clear hc hrow hC3 hx hs3 hC
            have hc4 := hS.own.reads.cell (j + 1) _ (vat_of (by rw [hS.len]; simpa using hlj1))
            have hrow4 := hS.row (i := j + 1) (by simpa using hlj1)
            replace hS := hid hS
            go_wp2_with fail
            refine (before_spec (k : Int) _ _ _ hrow4 (by rw [Pm.len]; omega) (by omega) (by rw [Pm.len]; omega)).mono ?_
            rintro e w5 ⟨y, rfl, hy, hs5⟩
            have e1 : pat (N.set j (mul (pat N j) (sg n k hkn))) (j + 1) = pat N (j + 1) := by simp [pat]
            rw [e1, Int.toNat_natCast, front_val (pat N (j + 1)) hkn hk0] at hy
            obtain ⟨ya, yn, yc, rfl⟩ : ∃ a m c, y = Value.slice a m c := by obtain ⟨a, c, e⟩ := hy.form3'; exact ⟨a, _, c, e⟩
            have hC5 := hS.out.next hs5
            have hc5 := hC5.own.reads.cell (j + 1) _ (vat_of (by rw [hC5.len]; simpa using hlj1))
            have hf5 := hC5.own.frozen (i := j + 1) (by rw [hC5.len]; simpa using hlj1)
            have hT := hS.out.set hs5 hlo (i := j + 1) (by simpa using hlj1) (p := mul (sg n k hkn) (pat N (j + 1))) hy
            clear hc4 hrow4 hC5 hy hs5 hS hc3 hf3
            replace hT : SetC w _ f lo (mv N j (mul (pat N j) (sg n k hkn)) (mul (sg n k hkn) (pat N (j + 1)))) _ := hT
            have hE' := hid ((gar n).eqv_trans hE.out hEq.out)
            have hml := hid (length_mv N j (mul (pat N j) (sg n k hkn)) (mul (sg n k hkn) (pat N (j + 1))))
            clear hE hEq
            generalize hM' : mv N j (mul (pat N j) (sg n k hkn)) (mul (sg n k hkn) (pat N (j + 1))) = M' at *
            clear hM' e1
            have hMl' := hml.out
            generalize hvs' : (us.set j (.slice xa xn xc)).set (j + 1) (.slice ya yn yc) = us' at *
            clear hvs'
            replace hT := hid hT
            go_wp2_with fail
            generalize hWT : w5.setCell (adr f (j + 1)) (Value.slice ya yn yc) = wT at *
            clear hWT hc5 hf5
            have hdz : wT.drew.heap.size = wT.heap.size := rfl
            have hK := hid (fun (w' : World) (hw : Below wT.heap.size wT w') => (⟨(hT.out.own.reads.below hw).cell j _ (vat_of (by rw [hT.out.len]; omega)), (hT.out.own.reads.below hw).cell (j + 1) _ (vat_of (by rw [hT.out.len]; omega))⟩ : w'.cell? (adr f j) = some (vat us' j) ∧ w'.cell? (adr f (j + 1)) = some (vat us' (j + 1))))
            have hX := hid (hT.out.extra hn (j := j) (by omega))
            go_region_held3 (fun w' => w'.cell? (adr f j) = some (vat us' j) ∧ w'.cell? (adr f (j + 1)) = some (vat us' (j + 1))) (first | exact hK.out _ (Below.refl _ _).drew | exact hK.out _ hbS) ((first | (go_at_call 110; refine hX.out.mono ?_; rintro e w6 ⟨rfl, hs6⟩; have hbS : Below wT.heap.size wT w6 := (Below.refl _ wT).drew.trans hs6)))
            all_goals
              clear hX hK
              replace hT := hid (hT.out.next hbS)
              go_wp2_with fail
              go_roundg (far 0 M').toNat
              case rel => exact ⟨M', us', hT.out, by omega, hE'.out, .inr ⟨rfl, by have := hfar.out; rcases hbb.out with ⟨-, e2, -⟩ | ⟨-, e2⟩; rw [← e2]; omega; omega⟩, rfl, Nat.le_refl _⟩
              case measure => have := hfar.out; have := far_nonneg 0 M'; have := far_nonneg 0 N; omega


end Go.Proofs.Ytmeccemnmkobbaa
