/- Contracts: joined normal forms, in the reference. -/
import Derived.Test.YtmeccemnmkobbaaRem
import Derived.Test.YtmeccemnmkobbaaRen
namespace Go.Proofs.Ytmeccemnmkobbaa
open Go.RowKit
open Pm

def toPm (n : Nat) (l : List Int) : Pm n := if h : l.length = n ∧ IsPerm l then ⟨l, h⟩ else one n
def toL (n : Nat) (ls : List (List Int)) : List (Pm n) := ls.map (toPm n)
theorem toPm_val {n : Nat} {l : List Int} (h : l.length = n ∧ IsPerm l) : (toPm n l).1 = l := by
  have e : toPm n l = (⟨l, h⟩ : Pm n) := dif_pos h
  exact congrArg Subtype.val e
theorem toL_vals {n : Nat} (L : List (Pm n)) : toL n (vals L) = L := by
  unfold toL vals
  rw [List.map_map]
  conv => rhs; rw [← List.map_id L]
  apply List.map_congr_left
  intro p _
  exact Subtype.ext (toPm_val p.2)
theorem of_rows {n : Nat} {ls : List (List Int)} (h : ∀ i, i < ls.length → (rat ls i).length = n ∧ IsPerm (rat ls i)) : vals (toL n ls) = ls := by
  induction ls with
  | nil => rfl
  | cons l ls ih =>
    have e := ih fun i hi => h (i + 1) (by simpa using hi)
    have h0 : l.length = n ∧ IsPerm l := h 0 (by simp)
    have e2 : (toPm n l).1 = l := toPm_val h0
    show (toPm n l).1 :: vals (toL n ls) = l :: ls
    rw [e, e2]
theorem normB_vals {n : Nat} {p : Int} {ls : List (List Int)} (h : normB n p ls = true) : vals (toL n ls) = ls :=
  of_rows fun i hi => by
    have h1 := facOk_of ((normB_of h).2.2.2.2.2.2 i hi)
    exact ⟨by omega, (okP_of h1.2.1).2⟩
theorem wt_all {n : Nat} {L : List (Pm n)} (h : (gar n).Wt L) : ∀ i, i + 1 < L.length → extraF (pat L i).1 (pat L (i + 1)).1 = 0 := by
  induction L with
  | nil => intro i hi; simp at hi
  | cons x L ih =>
    cases L with
    | nil => intro i hi; simp at hi
    | cons y L =>
      intro i hi
      cases i with
      | zero => exact (extra_iff x y).2 h.1
      | succ i => exact ih h.2 i (by simpa using hi)
theorem normB_nrm {n : Nat} {p : Int} {L : List (Pm n)} (h : normB n p (vals L) = true) : (gar n).Nrm L := by
  obtain ⟨-, -, -, -, -, -, h6⟩ := normB_of h
  have hf : ∀ i, i < L.length → pat L i ≠ one n ∧ pat L i ≠ top n ∧ (i = 0 ∨ extraF (rat (vals L) (i - 1)) (pat L i).1 = 0) := fun i hi => by
    have h1 := facOk_of (h6 i (by simpa using hi))
    rw [rat_vals hi] at h1
    simp only [Int.toNat_natCast] at h1
    exact ⟨fun e => h1.2.2.1 (by rw [e, idn_val]), fun e => h1.2.2.2.1 (by rw [e, half_val]), h1.2.2.2.2⟩
  refine ⟨wt_of_all fun i hi => ?_, fun x hx => ?_⟩
  · rcases (hf (i + 1) hi).2.2 with e | e
    · omega
    · rw [Nat.add_sub_cancel, rat_vals (by omega)] at e; exact e
  · obtain ⟨i, hi, e⟩ := List.getElem_of_mem hx
    have h1 := hf i hi
    have e2 : pat L i = x := by simp [pat, hi, e]
    rw [e2] at h1
    exact ⟨h1.1, h1.2.1⟩
theorem nrm_normB {n : Nat} {p : Int} {L : List (Pm n)} (hn : n ≤ 12) (h : (gar n).Nrm L) (h2 : 2 ≤ n ∨ p = 0) : normB n p (vals L) = (inB p (-100) 100 && decide (L.length ≤ 100)) := by
  have h3 : inB (n : Int) 0 12 = true := by simp [inB]; omega
  have h4 : (decide ((2 : Int) ≤ n) || p == 0) = true := by
    rcases h2 with h2 | h2
    · rw [decide_eq_true (by omega)]; rfl
    · rw [h2]; simp
  have h5 : (List.range (vals L).length).all (facOk n (vals L)) = true := by
    rw [List.all_eq_true]
    intro i hi
    rw [List.mem_range, length_vals] at hi
    have hm : pat L i ∈ L := by simp [pat, hi]
    have h6 := h.2 _ hm
    unfold facOk
    rw [rat_vals hi]
    simp only [Int.toNat_natCast]
    rw [decide_eq_true (by rw [Pm.len]), okP_mk (by rw [Pm.len]; exact hn) (pat L i).2.2, decide_eq_false (fun e => h6.1 (Subtype.ext (e.trans (idn_val n)))), decide_eq_false (fun e => h6.2 (Subtype.ext (e.trans (half_val n))))]
    by_cases e : i = 0
    · rw [e]; rfl
    · have := wt_all h.1 (i - 1) (by omega)
      rw [show i - 1 + 1 = i by omega] at this
      rw [rat_vals (by omega), this]; simp
  unfold normB
  rw [h3, h4, h5, length_vals]
  simp
theorem tw_even {n : Nat} {q : Int} (h : q % 2 = 0) (L : List (Pm n)) : L.map ((gar n).tw q) = L := by
  conv => rhs; rw [← List.map_id L]
  apply List.map_congr_left
  intro x _
  unfold Gar.tw
  rw [if_pos h]; rfl
theorem tw_odd {n : Nat} {q : Int} (h : ¬ q % 2 = 0) (L : List (Pm n)) : L.map ((gar n).tw q) = L.map (gar n).tau := by
  apply List.map_congr_left
  intro x _
  unfold Gar.tw
  rw [if_neg h]
theorem tm_even {q : Int} (h : q % 2 = 0) : (q.tmod 2 != 0) = false := by
  rw [bne_eq_false_iff_eq]; exact Int.tmod_eq_zero_of_dvd (Int.dvd_of_emod_eq_zero h)
theorem tm_odd {q : Int} (h : ¬ q % 2 = 0) : (q.tmod 2 != 0) = true := by
  rw [bne_iff_ne]; intro e; exact h (Int.emod_eq_zero_of_dvd (Int.dvd_of_tmod_eq_zero e))
theorem nrm_tw {n : Nat} {L : List (Pm n)} (h : (gar n).Nrm L) (q p : Int) : (gar n).NF (p, L.map ((gar n).tw q)) = (p, L.map ((gar n).tw q)) := by
  rw [(gar n).NF_tw, (gar n).NF_nrm h]

set_option maxRecDepth 100000 in
set_option maxHeartbeats 8000000 in
theorem join_impl {n : Nat} (p q : Int) (v u : Value) (A B : List (Pm n)) (w : World) (h : ReadsII w v (vals A)) (h' : ReadsII w u (vals B)) (hA : (gar n).Nrm A) (ha : A.length ≤ 100) (hb : B.length ≤ 100) (hp0 : -100 ≤ p) (hp1 : p ≤ 100) (hq0 : -100 ≤ q) (hq1 : q ≤ 100) (hn : n ≤ 12) :
    Calls Try.prog 106 #[.agg #[.int .i64 (n : Int), .int .i64 p, v], .agg #[.int .i64 (n : Int), .int .i64 q, u]] w fun e w' => ∃ o us, e = .returned (.agg #[.int .i64 n, .int .i64 ((gar n).NF (p + q, A.map ((gar n).tw q) ++ B)).1, o]) ∧ NB w' w.heap.size o us ((gar n).NF (p + q, A.map ((gar n).tw q) ++ B)).2 ∧ Below w.heap.size w w' := by
  obtain ⟨vs, hv, hvr⟩ := h
  obtain ⟨us0, hu, hur⟩ := h'
  have hvl : vs.length = A.length := by have := hvr.len; simpa using this
  have hul : us0.length = B.length := by have := hur.len; simpa using this
  have hln := hv.len (P := Try.prog) 22 3 ⟨_, sliceII⟩
  have hln' := hu.len (P := Try.prog) 22 3 ⟨_, sliceII⟩
  rw [hvl] at hln
  rw [hul] at hln'
  have hAx := (((Bx.new w #[.int .i64 (n : Int), .int .i64 p, v] 27).alloc (.cells #[.int .i64 (n : Int), .int .i64 q, u] 27)).alloc (.cells #[.int .i64 0, .int .i64 0, .slice none 0 0] 27)).alloc (.cells #[.int .i64 (n : Int), .int .i64 (p + q), .slice none 0 0] 27)
  have hBx := ((Bx.new (w.alloc (.cells #[.int .i64 (n : Int), .int .i64 p, v] 27)) #[.int .i64 (n : Int), .int .i64 q, u] 27).alloc (.cells #[.int .i64 0, .int .i64 0, .slice none 0 0] 27)).alloc (.cells #[.int .i64 (n : Int), .int .i64 (p + q), .slice none 0 0] 27)
  have hRx := (Bx.new ((w.alloc (.cells #[.int .i64 (n : Int), .int .i64 p, v] 27)).alloc (.cells #[.int .i64 (n : Int), .int .i64 q, u] 27)) #[.int .i64 0, .int .i64 0, .slice none 0 0] 27).alloc (.cells #[.int .i64 (n : Int), .int .i64 (p + q), .slice none 0 0] 27)
  have hGx := Bx.new (((w.alloc (.cells #[.int .i64 (n : Int), .int .i64 p, v] 27)).alloc (.cells #[.int .i64 (n : Int), .int .i64 q, u] 27)).alloc (.cells #[.int .i64 0, .int .i64 0, .slice none 0 0] 27)) #[.int .i64 (n : Int), .int .i64 (p + q), .slice none 0 0] 27
  have hb0 : Below w.heap.size w ((((w.alloc (.cells #[.int .i64 (n : Int), .int .i64 p, v] 27)).alloc (.cells #[.int .i64 (n : Int), .int .i64 q, u] 27)).alloc (.cells #[.int .i64 0, .int .i64 0, .slice none 0 0] 27)).alloc (.cells #[.int .i64 (n : Int), .int .i64 (p + q), .slice none 0 0] 27)) := ((((Below.refl _ _).alloc (Nat.le_refl _) _).alloc (by simp) _).alloc (by simp; omega) _).alloc (by simp; omega) _
  have hsz : ((((w.alloc (.cells #[.int .i64 (n : Int), .int .i64 p, v] 27)).alloc (.cells #[.int .i64 (n : Int), .int .i64 q, u] 27)).alloc (.cells #[.int .i64 0, .int .i64 0, .slice none 0 0] 27)).alloc (.cells #[.int .i64 (n : Int), .int .i64 (p + q), .slice none 0 0] 27)).heap.size = w.heap.size + 1 + 1 + 1 + 1 := by simp
  simp only [World.size_alloc] at hBx hRx hGx
  go_enter Try.func106, Try.ntmps106
  go_wp2_with fail
  generalize ((((w.alloc (.cells #[.int .i64 (n : Int), .int .i64 p, v] 27)).alloc (.cells #[.int .i64 (n : Int), .int .i64 q, u] 27)).alloc (.cells #[.int .i64 0, .int .i64 0, .slice none 0 0] 27)).alloc (.cells #[.int .i64 (n : Int), .int .i64 (p + q), .slice none 0 0] 27)) = w0 at *
  have A2 := hAx.cell 2 rfl
  replace hv := hid hv
  replace hu := hid hu
  replace hvr := hid hvr
  replace hur := hid hur
  replace hAx := hid hAx
  replace hBx := hid hBx
  replace hRx := hid hRx
  replace hGx := hid hGx
  replace hb0 := hid hb0
  replace hA := hid hA
  clear A2
  go_loopw [7, 21] (fun _ i wr => ∃ (j : Nat) (o : Value) (us : List Value), j ≤ A.length ∧ i = .int .i64 j ∧ NB wr (w.heap.size + 1 + 1 + 1 + 1) o us (A.take j) ∧ Bx wr (w.heap.size + 1 + 1 + 1) [.int .i64 (n : Int), .int .i64 (p + q), o] ∧ Below (w.heap.size + 1 + 1 + 1) w0 wr) (fun _ i _ => A.length - (intOf i).toNat)
  case atStart => exact ⟨0, .slice none 0 0, [], by omega, rfl, NB.nil n _ _, hGx.out, Below.refl _ _⟩
  case round =>
    clear hGx
    obtain ⟨j, o, us, hj, rfl, hN, hX, hbw⟩ := hrel
    have hwz : w.heap.size + 1 + 1 + 1 + 1 ≤ wr.heap.size := by have := hbw.size; omega
    have hbo := hid (hb0.out.trans (hbw.mono (by omega)))
    by_cases hlt : j < A.length
    case pos =>
      have hi := hv.out.idx 22 sliceII sizeSI .i64 j (by omega) (by rw [hvl]; omega)
      simp only [Int.toNat_natCast] at hi
      have hc := (hv.out.below hbo.out).cell j _ (vat_of (by omega))
      have hrow := hid (fun (w' : World) (hw : Below wr.heap.size wr w') => by have := ((hvr.out.row j (by rw [length_vals]; exact hlt)).below hbo.out).below hw; rwa [rat_vals hlt] at this)
      have hC := hid (fun (w' : World) (hw : Below wr.heap.size wr w') => clone_run (vat vs j) (pat A j).1 w' (hrow.out w' hw) (by rw [Pm.len]; omega))
      have N2 := hX.drew.cell 2 rfl
      have hbD := hid ((Below.refl wr.heap.size wr).drew)
      have hN' := hid hN
      have hX' := hid hX
      have hbw' := hid hbw
      have hdz : wr.drew.heap.size = wr.heap.size := rfl
      have htl : (A.take j).length ≤ 1048576 := by simp; omega
      clear hN hX hbw
      go_wp2_with fail
      go_region_law ((first | (refine step_call (hC.out _ hbD.out) (fun _ => by kernel_rfl) rfl (.tmp 27) rfl (by simp [Act.eval, Act.put]) ?_; rintro e w3 ⟨x, rfl, hx, hs3⟩; refine ⟨_, rfl, ?_⟩; obtain ⟨xa, xn, xc, rfl⟩ := own_lit hx; have hbS : Below wr.heap.size wr w3 := hbD.out.trans hs3; obtain ⟨v', w4, hrun, hN4, hb4⟩ := hN'.out.app hbS hwz hx htl; have hX3 := hX'.out.below hbS; have hX4 := hX3.belowB hb4 (by omega); have c3 := hX3.cell 2 rfl; have c3a := (hX3.alloc (.cells #[.slice xa xn xc] 32)).cell 2 rfl; have c4 := hX4.cell 2 rfl; have f4 := hX4.frozen 2; obtain ⟨va, vn, vc, rfl⟩ := own_lit hN4.own) | (refine step_app hrun rfl (.tmp 26) (.tmp 29) rfl (by simp [Act.eval]) (by simp [Act.eval]) ?_)))
      all_goals
        have hXS := hid (hX4.set 2 (.slice va vn vc))
        have hNS := hid (hN4.set_block (g := w.heap.size + 1 + 1 + 1) (by omega) 2 (.slice va vn vc))
        have hbS' := hid (((hbw'.out.trans (hbS.mono (by omega))).trans (hb4.mono (by omega))).setCell (p := ⟨w.heap.size + 1 + 1 + 1, 2, none⟩) (Nat.le_refl _) (.slice va vn vc))
        clear hN' hX' hbw' hrow hC hbD hX4 hX3 hN4 hb4 hbS hx hs3 c3 c3a htl
        go_wp2_with fail
        go_roundw
        case rel => exact ⟨j + 1, _, _, by omega, by go_num, by rw [take_pat hlt]; exact hNS.out, hXS.out, hbS'.out⟩
        case measure => simp [intOf]; omega
    case neg =>
    obtain rfl : j = A.length := by omega
    rw [List.take_of_length_le (Nat.le_refl _)] at hN
    have hBw := hBx.out.keep (hbw.block _ (by omega))
    have B1 := hBw.cell 1 rfl
    have B2 := hBw.cell 2 rfl
    replace hN := hid hN
    replace hX := hid hX
    replace hbw := hid hbw
    clear hBw
    by_cases hpar : q % 2 = 0
    case' pos =>
      have hpr := tm_even hpar
      obtain ⟨wF, usF, hNF, hXF, hbF, hwe⟩ : ∃ wF usF, Hid (NB wF (w.heap.size + 1 + 1 + 1 + 1) o usF (A.map ((gar n).tw q))) ∧ Hid (Bx wF (w.heap.size + 1 + 1 + 1) [.int .i64 (n : Int), .int .i64 (p + q), o]) ∧ Hid (Below (w.heap.size + 1 + 1 + 1) w0 wF) ∧ wF = wr := ⟨wr, us, by rw [tw_even hpar]; exact hN, hX, hbw, rfl⟩
      subst hwe
      go_wp2_with fail
    case' neg =>
      have hpr := tm_odd hpar
      go_wp2_with fail
      refine (flipAll_impl (w.heap.size + 1 + 1 + 1) (p + q) o us A wr (w.heap.size + 1 + 1 + 1 + 1) hwz (by omega) hX.out hN.out hn).mono ?_
      rintro e wF ⟨usF, rfl, hN5, hX5, hb5, -⟩
      rw [← tw_odd hpar] at hN5
      have hNF := hid hN5
      have hXF := hid hX5
      have hbF := hid (hbw.out.trans (hb5.mono (by omega)))
      have B2 := (hBx.out.keep (hbF.out.block _ (by omega))).cell 2 rfl
      clear hN5 hX5 hb5
      go_wp2_with fail
    all_goals
      clear hpr hN hX hbw
      go_loopw [9, 41] (fun _ i wr => ∃ (j : Nat) (o : Value) (us : List Value), j ≤ B.length ∧ i = .int .i64 j ∧ NB wr (w.heap.size + 1 + 1 + 1 + 1) o us ((gar n).NF (p + q, A.map ((gar n).tw q) ++ B.take j)).2 ∧ Bx wr (w.heap.size + 1 + 1 + 1) [.int .i64 (n : Int), .int .i64 ((gar n).NF (p + q, A.map ((gar n).tw q) ++ B.take j)).1, o] ∧ Below (w.heap.size + 1 + 1 + 1) w0 wr) (fun _ i _ => B.length - (intOf i).toNat)
      case atStart => exact ⟨0, o, usF, by omega, rfl, by rw [List.take_zero, List.append_nil, nrm_tw hA.out]; exact hNF.out, by rw [List.take_zero, List.append_nil, nrm_tw hA.out]; exact hXF.out, hbF.out⟩
      case round =>
        clear hNF hXF hbF hbo
        obtain ⟨j, o, us, hj, rfl, hN, hX, hbw⟩ := hrel
        have hwz : w.heap.size + 1 + 1 + 1 + 1 ≤ wr.heap.size := by have := hbw.size; omega
        have hbo := hid (hb0.out.trans (hbw.mono (by omega)))
        by_cases hlt : j < B.length
        case pos =>
          have hi := hu.out.idx 22 sliceII sizeSI .i64 j (by omega) (by rw [hul]; omega)
          simp only [Int.toNat_natCast] at hi
          have hc := (hu.out.below hbo.out).cell j _ (vat_of (by omega))
          have hrow := hid (by have := ((hur.out.row j (by rw [length_vals]; exact hlt)).below hbo.out); rwa [rat_vals hlt] at this : Reads wr (vat us0 j) (ints (pat B j).1))
          have hnl := (gar n).NF_len (p + q) (A.map ((gar n).tw q) ++ B.take j)
          rw [List.length_append, List.length_map, List.length_take] at hnl
          have e1 := hid (by rw [take_pat hlt, ← List.append_assoc, (gar n).NF_right] : (gar n).NF (p + q, A.map ((gar n).tw q) ++ B.take (j + 1)) = (gar n).NF (((gar n).NF (p + q, A.map ((gar n).tw q) ++ B.take j)).1, ((gar n).NF (p + q, A.map ((gar n).tw q) ++ B.take j)).2 ++ [pat B j]))
          generalize (gar n).NF (p + q, A.map ((gar n).tw q) ++ B.take j) = x at *
          replace hN := hid hN
          replace hX := hid hX
          replace hbw := hid hbw
          go_wp2_with fail
          refine (times_impl (w.heap.size + 1 + 1 + 1) x.1 o (vat us0 j) us x.2 (pat B j) wr (w.heap.size + 1 + 1 + 1 + 1) hwz (by omega) hX.out hN.out hrow.out (by omega) (by omega) (by omega) hn).mono ?_
          rintro e w5 ⟨o', us', rfl, hN5, hX5, hb5⟩
          replace hN5 := hid hN5
          replace hX5 := hid hX5
          replace hb5 := hid hb5
          go_wp2_with fail
          go_roundw
          case rel => exact ⟨j + 1, o', us', by omega, by go_num, by rw [e1.out]; exact hN5.out, by rw [e1.out]; exact hX5.out, hbw.out.trans hb5.out⟩
          case measure => simp [intOf]; omega
        case neg =>
          obtain rfl : j = B.length := by omega
          rw [List.take_of_length_le (Nat.le_refl _)] at hN hX
          generalize hSx : (gar n).NF (p + q, A.map ((gar n).tw q) ++ B) = x at *
          replace hSx := hid hSx
          obtain ⟨oa, on, oc, rfl⟩ := own_lit hN.own
          have hR := hRx.out.keep (hbw.block _ (by omega))
          have c0 := hX.cell 0 rfl
          have c1 := hX.cell 1 rfl
          have c2 := hX.cell 2 rfl
          have d0 := hR.cell 0 rfl
          have d1 := hR.cell 1 rfl
          have d2 := hR.cell 2 rfl
          have f0 := hR.frozen 0
          have f1 := hR.frozen 1
          have f2 := hR.frozen 2
          have hE := hid (((hN.set_block (g := w.heap.size + 1 + 1) (by omega) 0 (.int .i64 (n : Int))).set_block (g := w.heap.size + 1 + 1) (by omega) 1 (.int .i64 x.1)).set_block (g := w.heap.size + 1 + 1) (by omega) 2 (.slice oa on oc))
          have hR5 := ((hR.set 0 (.int .i64 (n : Int))).set 1 (.int .i64 x.1)).set 2 (.slice oa on oc)
          have g0 := hR5.cell 0 rfl
          have g1 := hR5.cell 1 rfl
          have g2 := hR5.cell 2 rfl
          clear hN hX hR hR5 hbw
          go_wp2_with fail
          refine bodyPost_ret (v := .agg #[.int .i64 (n : Int), .int .i64 x.1, .slice oa on oc]) (by simp [g0, g1, g2, results, Try.results106, go_sem]) rfl ⟨_, us, by rw [hSx.out], by rw [hSx.out]; exact hE.out.lower (by omega), ((hbo.out.setCell (by simp; omega) _).setCell (by simp; omega) _).setCell (by simp; omega) _⟩


end Go.Proofs.Ytmeccemnmkobbaa

namespace Go.Proofs.Ytmeccemnmkobbaa
open Go.RowKit
open Pm

def jnS (n p : Int) (la : List (List Int)) (q : Int) (lb : List (List Int)) : Gar.St (Pm n.toNat) := (gar n.toNat).NF (p + q, (toL n.toNat la).map ((gar n.toNat).tw q) ++ toL n.toNat lb)
def okJ (n p : Int) (la : List (List Int)) (q : Int) (lb : List (List Int)) : Bool := inB (jnS n p la q lb).1 (-100) 100 && decide ((jnS n p la q lb).2.length ≤ 100)
def codeJN (n p : Int) (la : List (List Int)) (m q : Int) (lb : List (List Int)) : Int := if normB n p la && normB m q lb then (if n = m then (if okJ n p la q lb then 0 else 5) else 6) else 1
def nJN (n p : Int) (la : List (List Int)) (m q : Int) (lb : List (List Int)) : Int := if codeJN n p la m q lb = 0 then n else 0
def pJN (n p : Int) (la : List (List Int)) (m q : Int) (lb : List (List Int)) : Int := if codeJN n p la m q lb = 0 then (jnS n p la q lb).1 else 0
def lJN (n p : Int) (la : List (List Int)) (m q : Int) (lb : List (List Int)) : List (List Int) := if codeJN n p la m q lb = 0 then vals (jnS n p la q lb).2 else []
theorem jnS_eq {a : Nat} (p q : Int) (A B : List (Pm a)) : jnS (a : Int) p (vals A) q (vals B) = (gar a).NF (p + q, A.map ((gar a).tw q) ++ B) := by
  show (gar a).NF (p + q, (toL a (vals A)).map ((gar a).tw q) ++ toL a (vals B)) = _
  rw [toL_vals, toL_vals]
theorem lJN_tot (n p : Int) (la : List (List Int)) (m q : Int) (lb : List (List Int)) : tot (lJN n p la m q lb) ≤ 1200 := by
  unfold lJN
  split
  · rename_i h
    unfold codeJN at h
    cases e1 : (normB n p la && normB m q lb) with
    | false => rw [e1] at h; simp at h
    | true =>
      rw [e1] at h
      have h1 := normB_of (by simpa using e1 : normB n p la = true ∧ normB m q lb = true).1
      by_cases e2 : n = m
      · rw [if_pos rfl, if_pos e2] at h
        cases e3 : okJ n p la q lb with
        | false => rw [e3] at h; simp at h
        | true =>
          have h2 : (jnS n p la q lb).2.length ≤ 100 := by unfold okJ at e3; simp at e3; exact e3.2
          rw [tot_vals]
          have := Nat.mul_le_mul (show n.toNat ≤ 12 by omega) h2
          omega
      · rw [if_pos rfl, if_neg e2] at h; simp at h
  · simp [tot]


set_option maxRecDepth 100000 in
set_option maxHeartbeats 8000000 in
theorem vjn_impl (n p : Int) (v : Value) (la : List (List Int)) (m q : Int) (u : Value) (lb : List (List Int)) (w : World) (h : ReadsII w v la) (h' : ReadsII w u lb) :
    Calls Try.prog 50 #[.agg #[.int .i64 n, .int .i64 p, v], .agg #[.int .i64 m, .int .i64 q, u]] w fun e w' => ∃ x, e = .returned (.tuple #[.agg #[.int .i64 (nJN n p la m q lb), .int .i64 (pJN n p la m q lb), x], .int .i64 (codeJN n p la m q lb)]) ∧ OwnII w' w.heap.size w'.heap.size 32 2 x (lJN n p la m q lb) ∧ Below w.heap.size w w' := by
  have hA0 := ((Bx.new w #[.int .i64 n, .int .i64 p, v] 27).alloc (.cells #[.int .i64 m, .int .i64 q, u] 27)).alloc (.cells #[.int .i64 0, .int .i64 0, .slice none 0 0] 27)
  have hB0 := (Bx.new (w.alloc (.cells #[.int .i64 n, .int .i64 p, v] 27)) #[.int .i64 m, .int .i64 q, u] 27).alloc (.cells #[.int .i64 0, .int .i64 0, .slice none 0 0] 27)
  have hR0 := Bx.new ((w.alloc (.cells #[.int .i64 n, .int .i64 p, v] 27)).alloc (.cells #[.int .i64 m, .int .i64 q, u] 27)) #[.int .i64 0, .int .i64 0, .slice none 0 0] 27
  have hb0 : Below w.heap.size w (((w.alloc (.cells #[.int .i64 n, .int .i64 p, v] 27)).alloc (.cells #[.int .i64 m, .int .i64 q, u] 27)).alloc (.cells #[.int .i64 0, .int .i64 0, .slice none 0 0] 27)) := (((Below.refl _ _).alloc (Nat.le_refl _) _).alloc (by simp) _).alloc (by simp; omega) _
  have hsz : (((w.alloc (.cells #[.int .i64 n, .int .i64 p, v] 27)).alloc (.cells #[.int .i64 m, .int .i64 q, u] 27)).alloc (.cells #[.int .i64 0, .int .i64 0, .slice none 0 0] 27)).heap.size = w.heap.size + 1 + 1 + 1 := by simp
  simp only [World.size_alloc] at hB0 hR0
  obtain ⟨vs, hv, hvr⟩ := h.below hb0
  obtain ⟨us, hu, hur⟩ := h'.below hb0
  go_enter Try.func50, Try.ntmps50
  go_wp2_with fail
  generalize (((w.alloc (.cells #[.int .i64 n, .int .i64 p, v] 27)).alloc (.cells #[.int .i64 m, .int .i64 q, u] 27)).alloc (.cells #[.int .i64 0, .int .i64 0, .slice none 0 0] 27)) = w0 at *
  have A0 := hA0.cell 0 rfl
  have A1 := hA0.cell 1 rfl
  have A2 := hA0.cell 2 rfl
  clear h h'
  go_wp2_with fail
  refine (vn_impl n p v la w0 ⟨vs, hv, hvr⟩).mono ?_
  clear A0 A1 A2
  rintro e w1 ⟨rfl, hs1⟩
  have hz1 := hs1.size
  have hA1 := hA0.below hs1
  have hB1 := hB0.below hs1
  have hR1 := hR0.below hs1
  have hb1 := hb0.trans (hs1.mono hb0.size)
  replace hv := hv.below hs1
  replace hvr := hvr.below hs1
  replace hu := hu.below hs1
  replace hur := hur.below hs1
  clear hs1 hA0 hB0 hR0 hb0
  cases e1 : normB n p la with
  | false =>
    have hcode : codeJN n p la m q lb = 1 := by unfold codeJN; rw [e1]; rfl
    have g5 := ((hR1.set 0 (.int .i64 0)).set 1 (.int .i64 0)).set 2 (.slice none 0 0)
    have R0 := hR1.cell 0 rfl
    have R1 := hR1.cell 1 rfl
    have R2 := hR1.cell 2 rfl
    have F0 := hR1.frozen 0
    have F1 := hR1.frozen 1
    have F2 := hR1.frozen 2
    have g0 := g5.cell 0 rfl
    have g1 := g5.cell 1 rfl
    have g2 := g5.cell 2 rfl
    have hbt := hid hb1
    go_wp2_with fail
    refine bodyPost_ret (v := .tuple #[.agg #[.int .i64 0, .int .i64 0, .slice none 0 0], .int .i64 1]) (by simp [g0, g1, g2, results, Try.results50, go_sem]) rfl ⟨_, by unfold nJN pJN; rw [hcode]; rfl, by unfold lJN; rw [hcode]; exact OwnII.empty _ _ _, ((hbt.out.setCell (by simp; omega) _).setCell (by simp; omega) _).setCell (by simp; omega) _⟩
  | true =>
  replace e1 := hid e1
  have B0 := hB1.cell 0 rfl
  have B1 := hB1.cell 1 rfl
  have B2 := hB1.cell 2 rfl
  go_wp2_with fail
  refine (vn_impl m q u lb w1 ⟨us, hu, hur⟩).mono ?_
  clear B0 B1 B2
  rintro e w2 ⟨rfl, hs2⟩
  have hz2 := hs2.size
  have hA2 := hA1.below hs2
  have hB2 := hB1.below hs2
  have hR2 := hR1.below hs2
  have hb2 := hb1.trans (hs2.mono hb1.size)
  replace hv := hv.below hs2
  replace hvr := hvr.below hs2
  replace hu := hu.below hs2
  replace hur := hur.below hs2
  clear hs2 hA1 hB1 hR1 hb1
  cases e2 : normB m q lb with
  | false =>
    have hcode : codeJN n p la m q lb = 1 := by unfold codeJN; rw [e1.out, e2]; rfl
    have g5 := ((hR2.set 0 (.int .i64 0)).set 1 (.int .i64 0)).set 2 (.slice none 0 0)
    have R0 := hR2.cell 0 rfl
    have R1 := hR2.cell 1 rfl
    have R2 := hR2.cell 2 rfl
    have F0 := hR2.frozen 0
    have F1 := hR2.frozen 1
    have F2 := hR2.frozen 2
    have g0 := g5.cell 0 rfl
    have g1 := g5.cell 1 rfl
    have g2 := g5.cell 2 rfl
    have hbt := hid hb2
    go_wp2_with fail
    refine bodyPost_ret (v := .tuple #[.agg #[.int .i64 0, .int .i64 0, .slice none 0 0], .int .i64 1]) (by simp [g0, g1, g2, results, Try.results50, go_sem]) rfl ⟨_, by unfold nJN pJN; rw [hcode]; rfl, by unfold lJN; rw [hcode]; exact OwnII.empty _ _ _, ((hbt.out.setCell (by simp; omega) _).setCell (by simp; omega) _).setCell (by simp; omega) _⟩
  | true =>
  replace e2 := hid e2
  have A0 := hA2.cell 0 rfl
  have B0 := hB2.cell 0 rfl
  cases e3 : (n == m) with
  | false =>
    have e3' : (n != m) = true := by simp [bne, e3]
    have e3n := hid (show ¬ n = m by simpa using e3)
    have hcode : codeJN n p la m q lb = 6 := by unfold codeJN; rw [e1.out, e2.out]; simp [e3n.out]
    have g5 := ((hR2.set 0 (.int .i64 0)).set 1 (.int .i64 0)).set 2 (.slice none 0 0)
    have R0 := hR2.cell 0 rfl
    have R1 := hR2.cell 1 rfl
    have R2 := hR2.cell 2 rfl
    have F0 := hR2.frozen 0
    have F1 := hR2.frozen 1
    have F2 := hR2.frozen 2
    have g0 := g5.cell 0 rfl
    have g1 := g5.cell 1 rfl
    have g2 := g5.cell 2 rfl
    have hbt := hid hb2
    go_wp2_with fail
    refine bodyPost_ret (v := .tuple #[.agg #[.int .i64 0, .int .i64 0, .slice none 0 0], .int .i64 6]) (by simp [g0, g1, g2, results, Try.results50, go_sem]) rfl ⟨_, by unfold nJN pJN; rw [hcode]; rfl, by unfold lJN; rw [hcode]; exact OwnII.empty _ _ _, ((hbt.out.setCell (by simp; omega) _).setCell (by simp; omega) _).setCell (by simp; omega) _⟩
  | true =>
  have e3' : (n != m) = false := by simp [bne, e3]
  obtain rfl : n = m := by simpa using e3
  have q1 := normB_of e1.out
  have q2 := normB_of e2.out
  obtain ⟨q10, q11, q12, q13, q14, q15, -⟩ := q1
  obtain ⟨-, -, q22, q23, q24, q25, -⟩ := q2
  obtain ⟨a, rfl⟩ := Int.eq_ofNat_of_zero_le q10
  obtain ⟨A, rfl⟩ : ∃ A : List (Pm a), la = vals A := ⟨_, (normB_vals e1.out).symm⟩
  obtain ⟨B, rfl⟩ : ∃ B : List (Pm a), lb = vals B := ⟨_, (normB_vals e2.out).symm⟩
  rw [length_vals] at q14 q24
  have hnA := hid (normB_nrm e1.out)
  have hnB := hid (normB_nrm e2.out)
  have hS := hid (jnS_eq p q A B)
  have A1 := hA2.cell 1 rfl
  have A2 := hA2.cell 2 rfl
  have B1 := hB2.cell 1 rfl
  have B2 := hB2.cell 2 rfl
  replace hR2 := hid hR2
  replace hb2 := hid hb2
  go_wp2_with fail
  refine (join_impl p q v u A B w2 ⟨vs, hv, hvr⟩ ⟨us, hu, hur⟩ hnA.out q14 q24 (by omega) (by omega) (by omega) (by omega) (by omega)).mono ?_
  rintro e w3 ⟨o, us3, rfl, hN, hs3⟩
  rw [← hS.out] at hN ⊢
  have hz3 := hs3.size
  have hbl := (gar a).NF_len (p + q) (A.map ((gar a).tw q) ++ B)
  rw [← hS.out, List.length_append, List.length_map] at hbl
  obtain ⟨oa, on, oc, rfl⟩ := own_lit hN.own
  have hln := hN.own.reads.len (P := Try.prog) 22 3 ⟨_, sliceII⟩
  rw [hN.len] at hln
  have hR3 := hid ((hR2.out.below hs3).alloc (.cells #[.int .i64 a, .int .i64 (jnS a p (vals A) q (vals B)).1, .slice oa on oc] 27))
  have hX := Bx.new w3 #[.int .i64 a, .int .i64 (jnS a p (vals A) q (vals B)).1, .slice oa on oc] 27
  have hb3 := hid ((hb2.out.trans (hs3.mono hb2.out.size)).alloc (by omega) (.cells #[.int .i64 a, .int .i64 (jnS a p (vals A) q (vals B)).1, .slice oa on oc] 27))
  have hO := hid ((hN.ownII.alloc (.cells #[.int .i64 a, .int .i64 (jnS a p (vals A) q (vals B)).1, .slice oa on oc] 27)).widen (lo' := w.heap.size + 1 + 1 + 1) (by omega) (Nat.le_succ _))
  have X0 := hX.cell 0 rfl
  have X1 := hX.cell 1 rfl
  have X2 := hX.cell 2 rfl
  clear hN hs3 A0 A1 A2 B0 B1 B2 hA2 hB2 hv hvr hu hur
  go_wp2_with fail
  refine (in_impl _ _ _ _).mono ?_
  rintro e w4 ⟨rfl, rfl⟩
  cases e4 : inB (jnS a p (vals A) q (vals B)).1 (-100) 100 with
  | false =>
    have hcode : codeJN a p (vals A) a q (vals B) = 5 := by unfold codeJN okJ; rw [e1.out, e2.out, e4]; simp
    have g5 := ((hR3.out.set 0 (.int .i64 0)).set 1 (.int .i64 0)).set 2 (.slice none 0 0)
    have R0 := hR3.out.cell 0 rfl
    have R1 := hR3.out.cell 1 rfl
    have R2 := hR3.out.cell 2 rfl
    have F0 := hR3.out.frozen 0
    have F1 := hR3.out.frozen 1
    have F2 := hR3.out.frozen 2
    have g0 := g5.cell 0 rfl
    have g1 := g5.cell 1 rfl
    have g2 := g5.cell 2 rfl
    have hbt := hid hb3.out
    go_wp2_with fail
    refine bodyPost_ret (v := .tuple #[.agg #[.int .i64 0, .int .i64 0, .slice none 0 0], .int .i64 5]) (by simp [g0, g1, g2, results, Try.results50, go_sem]) rfl ⟨_, by unfold nJN pJN; rw [hcode]; rfl, by unfold lJN; rw [hcode]; exact OwnII.empty _ _ _, ((hbt.out.setCell (by simp; omega) _).setCell (by simp; omega) _).setCell (by simp; omega) _⟩
  | true =>
  by_cases e5 : (jnS a p (vals A) q (vals B)).2.length ≤ 100
  · have e5' : ¬ (100 : Int) < ((jnS a p (vals A) q (vals B)).2.length : Int) := by omega
    have hcode : codeJN a p (vals A) a q (vals B) = 0 := by unfold codeJN okJ; rw [e1.out, e2.out, e4]; simp [e5]
    have R0 := hR3.out.cell 0 rfl
    have R1 := hR3.out.cell 1 rfl
    have R2 := hR3.out.cell 2 rfl
    have F0 := hR3.out.frozen 0
    have F1 := hR3.out.frozen 1
    have F2 := hR3.out.frozen 2
    have g5 := ((hR3.out.set 0 (.int .i64 a)).set 1 (.int .i64 (jnS a p (vals A) q (vals B)).1)).set 2 (.slice oa on oc)
    have g0 := g5.cell 0 rfl
    have g1 := g5.cell 1 rfl
    have g2 := g5.cell 2 rfl
    have hE := hid (((hO.out.setAt (g := w.heap.size + 1 + 1) (by omega) 0 (.int .i64 a)).setAt (g := w.heap.size + 1 + 1) (by omega) 1 (.int .i64 (jnS a p (vals A) q (vals B)).1)).setAt (g := w.heap.size + 1 + 1) (by omega) 2 (.slice oa on oc))
    clear e5 g5
    go_wp2_with fail
    refine bodyPost_ret (v := .tuple #[.agg #[.int .i64 a, .int .i64 (jnS a p (vals A) q (vals B)).1, .slice oa on oc], .int .i64 0]) (by simp [g0, g1, g2, results, Try.results50, go_sem]) rfl ⟨_, by unfold nJN pJN; rw [hcode]; rfl, by unfold lJN; rw [hcode]; exact hE.out.lowered (by omega) (by simp [World.setCell]), ((hb3.out.setCell (by simp; omega) _).setCell (by simp; omega) _).setCell (by simp; omega) _⟩
  · have e5' : (100 : Int) < ((jnS a p (vals A) q (vals B)).2.length : Int) := by omega
    have hcode : codeJN a p (vals A) a q (vals B) = 5 := by unfold codeJN okJ; rw [e1.out, e2.out, e4]; simp [e5]
    have g5 := ((hR3.out.set 0 (.int .i64 0)).set 1 (.int .i64 0)).set 2 (.slice none 0 0)
    have R0 := hR3.out.cell 0 rfl
    have R1 := hR3.out.cell 1 rfl
    have R2 := hR3.out.cell 2 rfl
    have F0 := hR3.out.frozen 0
    have F1 := hR3.out.frozen 1
    have F2 := hR3.out.frozen 2
    have g0 := g5.cell 0 rfl
    have g1 := g5.cell 1 rfl
    have g2 := g5.cell 2 rfl
    have hbt := hid hb3.out
    go_wp2_with fail
    refine bodyPost_ret (v := .tuple #[.agg #[.int .i64 0, .int .i64 0, .slice none 0 0], .int .i64 5]) (by simp [g0, g1, g2, results, Try.results50, go_sem]) rfl ⟨_, by unfold nJN pJN; rw [hcode]; rfl, by unfold lJN; rw [hcode]; exact OwnII.empty _ _ _, ((hbt.out.setCell (by simp; omega) _).setCell (by simp; omega) _).setCell (by simp; omega) _⟩

end Go.Proofs.Ytmeccemnmkobbaa

namespace Go.Proofs.Ytmeccemnmkobbaa
open Go.RowKit
open Pm

theorem Reads.blkLt {w : World} {v : Value} {xs : List Value} (h : Reads w v xs) (hne : xs ≠ []) {k : Nat} (hk : blk v = some k) : k < w.heap.size := by
  obtain ⟨a, c, rfl, -⟩ := h.form
  cases a with
  | none => simp [blk] at hk
  | some a =>
    cases xs with
    | nil => exact absurd rfl hne
    | cons x xs =>
      have h1 := World.block_lt_of_cell? w _ (h.cell 0 x rfl)
      have h2 : a.block = k := by simpa [blk] using hk
      rw [← h2]; exact h1
theorem rowsB_of {n : Nat} {w : World} {vs : List Value} {L : List (Pm n)} (h : RowsR w vs (vals L)) (h0 : L = [] ∨ 0 < n) : RowsB w 0 vs (vals L) := by
  refine ⟨h, fun i hi k hk => ⟨by omega, ?_⟩⟩
  rcases h0 with rfl | h0
  · simp [vals] at hi
  · have h1 := h.row i hi
    refine h1.blkLt (fun e => ?_) hk
    rw [length_vals] at hi
    rw [rat_vals hi] at e
    have e2 := congrArg List.length e
    rw [length_ints, Pm.len] at e2
    simp at e2; omega
theorem two_of {n : Nat} {p : Int} {L : List (Pm n)} (h : normB n p (vals L) = true) : L = [] ∨ 2 ≤ n := by
  cases L with
  | nil => exact .inl rfl
  | cons x L =>
    refine .inr ?_
    rcases Nat.lt_or_ge n 2 with h2 | h2
    · rw [normB_fac (i := 0) (by simp [vals]) (facOk_small (by omega) _ _)] at h; cases h
    · exact h2
theorem vat_left {us vs : List Value} {i : Nat} (h : i < us.length) : vat (us ++ vs) i = vat us i := by unfold vat; rw [List.getElem?_append_left h]
theorem vat_right {us vs : List Value} {i : Nat} (h : us.length ≤ i) : vat (us ++ vs) i = vat vs (i - us.length) := by unfold vat; rw [List.getElem?_append_right h]
theorem rat_left {us vs : List (List Int)} {i : Nat} (h : i < us.length) : rat (us ++ vs) i = rat us i := by unfold rat; rw [List.getElem?_append_left h]
theorem rat_right {us vs : List (List Int)} {i : Nat} (h : us.length ≤ i) : rat (us ++ vs) i = rat vs (i - us.length) := by unfold rat; rw [List.getElem?_append_right h]
theorem RowsB.both {w : World} {lo : Nat} {us vs : List Value} {ls ms : List (List Int)} (h : RowsB w lo us ls) (k : RowsB w lo vs ms) : RowsB w lo (us ++ vs) (ls ++ ms) := by
  have hl := h.rows.len
  have kl := k.rows.len
  refine ⟨⟨by simp [hl, kl], fun i hi => ?_⟩, fun i hi b hb => ?_⟩
  · rw [List.length_append] at hi
    by_cases e : i < ls.length
    · rw [vat_left (by omega), rat_left e]; exact h.rows.row i e
    · rw [vat_right (by omega), rat_right (by omega), hl]; exact k.rows.row _ (by omega)
  · rw [List.length_append] at hi
    by_cases e : i < ls.length
    · rw [vat_left (by omega)] at hb; exact h.blks i e b hb
    · rw [vat_right (by omega), hl] at hb; exact k.blks _ (by omega) b hb
theorem RowsB.keepG {w w' : World} {lo : Nat} {o : Value} {us : List Value} {ls : List (List Int)} (h : RowsB w lo us ls) (hg : w.grownBy w' (blk o)) (ha : ∀ i, i < ls.length → Apart (vat us i) o) : RowsB w' lo us ls :=
  ⟨⟨h.rows.len, fun i hi => (h.rows.row i hi).grown hg fun k hk e => ha i hi k hk e.symm⟩, fun i hi k hk => by have := h.blks i hi k hk; have := hg.size; omega⟩
theorem RowsB.one {w : World} {lo : Nat} {us : List Value} {ls : List (List Int)} (h : RowsB w lo us ls) : ∀ y ∈ us, y.oneCell' = true := by
  intro y hy
  obtain ⟨i, hi, rfl⟩ := List.mem_iff_getElem.1 hy
  have := h.rows.row i (by have := h.rows.len; omega)
  obtain ⟨a, c, e, -⟩ := this.form
  have e2 : us[i] = vat us i := by simp [vat, hi]
  rw [e2, e]; rfl
theorem NB.rowsR {n : Nat} {w : World} {B : Nat} {o : Value} {us : List Value} {L : List (Pm n)} (h : NB w B o us L) : RowsR w us (vals L) :=
  ⟨by simpa using h.len, fun i hi => by rw [length_vals] at hi; rw [rat_vals hi]; exact (h.row i hi).reads⟩
theorem RowsO.both {w : World} {lo B : Nat} {o u : Value} {us us0 : List Value} {ls ms : List (List Int)} (h : RowsO w lo B o us ls) (hu : Reads w u us0) (hr : RowsB w lo us0 ms) (ha : ∀ i, i < ms.length → Apart (vat us0 i) o) (hB : B ≤ w.heap.size) (hl : us.length + us0.length ≤ 1048576) :
    ∃ v' w', (Builtin.append_ #[22, 22] 22 #[o, u]).run Try.prog w = .ok v' w' ∧ Own w' B 32 v' (us ++ us0) ∧ RowsB w' lo (us ++ us0) (ls ++ ms) ∧ Below B w w' := by
  obtain ⟨v', w', hrun, ho, hg⟩ := app_run (T := 22) (ty := 22) (xs := us) (ys := us0) sliceII infoSI rfl h.own hu hr.one hB (by omega) (by decide)
  exact ⟨v', w', hrun, ho, (h.rows.keepG hg h.ap).both (hr.keepG hg ha), (Below.refl B w).grown hg hB fun k hk => (h.own.blk_lt hk).1⟩


set_option maxRecDepth 100000 in
set_option maxHeartbeats 8000000 in
theorem vjn_spec (n p : Int) (v : Value) (la : List (List Int)) (m q : Int) (u : Value) (lb : List (List Int)) (w : World) (h : ReadsII w v la) (h' : ReadsII w u lb) :
    Calls Try.prog 49 #[.agg #[.int .i64 n, .int .i64 p, v], .agg #[.int .i64 m, .int .i64 q, u]] w fun e w' => ∃ x, e = .returned (.tuple #[.agg #[.int .i64 (nJN n p la m q lb), .int .i64 (pJN n p la m q lb), x], .int .i64 (codeJN n p la m q lb)]) ∧ OwnII w' w.heap.size w'.heap.size 32 2 x (lJN n p la m q lb) ∧ Below w.heap.size w w' := by
  have hA0 := ((Bx.new w #[.int .i64 n, .int .i64 p, v] 27).alloc (.cells #[.int .i64 m, .int .i64 q, u] 27)).alloc (.cells #[.int .i64 0, .int .i64 0, .slice none 0 0] 27)
  have hB0 := (Bx.new (w.alloc (.cells #[.int .i64 n, .int .i64 p, v] 27)) #[.int .i64 m, .int .i64 q, u] 27).alloc (.cells #[.int .i64 0, .int .i64 0, .slice none 0 0] 27)
  have hR0 := Bx.new ((w.alloc (.cells #[.int .i64 n, .int .i64 p, v] 27)).alloc (.cells #[.int .i64 m, .int .i64 q, u] 27)) #[.int .i64 0, .int .i64 0, .slice none 0 0] 27
  have hb0 : Below w.heap.size w (((w.alloc (.cells #[.int .i64 n, .int .i64 p, v] 27)).alloc (.cells #[.int .i64 m, .int .i64 q, u] 27)).alloc (.cells #[.int .i64 0, .int .i64 0, .slice none 0 0] 27)) := (((Below.refl _ _).alloc (Nat.le_refl _) _).alloc (by simp) _).alloc (by simp; omega) _
  have hsz : (((w.alloc (.cells #[.int .i64 n, .int .i64 p, v] 27)).alloc (.cells #[.int .i64 m, .int .i64 q, u] 27)).alloc (.cells #[.int .i64 0, .int .i64 0, .slice none 0 0] 27)).heap.size = w.heap.size + 1 + 1 + 1 := by simp
  simp only [World.size_alloc] at hB0 hR0
  obtain ⟨vs, hv, hvr⟩ := h.below hb0
  obtain ⟨us, hu, hur⟩ := h'.below hb0
  go_enter Try.func49, Try.ntmps49
  go_wp2_with fail
  generalize (((w.alloc (.cells #[.int .i64 n, .int .i64 p, v] 27)).alloc (.cells #[.int .i64 m, .int .i64 q, u] 27)).alloc (.cells #[.int .i64 0, .int .i64 0, .slice none 0 0] 27)) = w0 at *
  have A0 := hA0.cell 0 rfl
  have A1 := hA0.cell 1 rfl
  have A2 := hA0.cell 2 rfl
  clear h h'
  go_wp2_with fail
  refine (l04ok_spec w.heap.size n p v vs la w0 hA0 hv hvr).mono ?_
  clear A0 A1 A2
  rintro e w1 ⟨rfl, hs1⟩
  have hz1 := hs1.size
  have hA1 := hA0.below hs1
  have hB1 := hB0.below hs1
  have hR1 := hR0.below hs1
  have hb1 := hb0.trans (hs1.mono hb0.size)
  replace hv := hv.below hs1
  replace hvr := hvr.below hs1
  replace hu := hu.below hs1
  replace hur := hur.below hs1
  clear hs1 hA0 hB0 hR0 hb0
  cases e1 : normB n p la with
  | false =>
    have hcode : codeJN n p la m q lb = 1 := by unfold codeJN; rw [e1]; rfl
    have g5 := ((hR1.set 0 (.int .i64 0)).set 1 (.int .i64 0)).set 2 (.slice none 0 0)
    have R0 := hR1.cell 0 rfl
    have R1 := hR1.cell 1 rfl
    have R2 := hR1.cell 2 rfl
    have F0 := hR1.frozen 0
    have F1 := hR1.frozen 1
    have F2 := hR1.frozen 2
    have g0 := g5.cell 0 rfl
    have g1 := g5.cell 1 rfl
    have g2 := g5.cell 2 rfl
    have hbt := hid hb1
    go_wp2_with fail
    refine bodyPost_ret (v := .tuple #[.agg #[.int .i64 0, .int .i64 0, .slice none 0 0], .int .i64 1]) (by simp [g0, g1, g2, results, Try.results49, go_sem]) rfl ⟨_, by unfold nJN pJN; rw [hcode]; rfl, by unfold lJN; rw [hcode]; exact OwnII.empty _ _ _, ((hbt.out.setCell (by simp; omega) _).setCell (by simp; omega) _).setCell (by simp; omega) _⟩
  | true =>
  replace e1 := hid e1
  have B0 := hB1.cell 0 rfl
  have B1 := hB1.cell 1 rfl
  have B2 := hB1.cell 2 rfl
  go_wp2_with fail
  refine (l04ok_spec (w.heap.size + 1) m q u us lb w1 hB1 hu hur).mono ?_
  clear B0 B1 B2
  rintro e w2 ⟨rfl, hs2⟩
  have hz2 := hs2.size
  have hA2 := hA1.below hs2
  have hB2 := hB1.below hs2
  have hR2 := hR1.below hs2
  have hb2 := hb1.trans (hs2.mono hb1.size)
  replace hv := hv.below hs2
  replace hvr := hvr.below hs2
  replace hu := hu.below hs2
  replace hur := hur.below hs2
  clear hs2 hA1 hB1 hR1 hb1
  cases e2 : normB m q lb with
  | false =>
    have hcode : codeJN n p la m q lb = 1 := by unfold codeJN; rw [e1.out, e2]; rfl
    have g5 := ((hR2.set 0 (.int .i64 0)).set 1 (.int .i64 0)).set 2 (.slice none 0 0)
    have R0 := hR2.cell 0 rfl
    have R1 := hR2.cell 1 rfl
    have R2 := hR2.cell 2 rfl
    have F0 := hR2.frozen 0
    have F1 := hR2.frozen 1
    have F2 := hR2.frozen 2
    have g0 := g5.cell 0 rfl
    have g1 := g5.cell 1 rfl
    have g2 := g5.cell 2 rfl
    have hbt := hid hb2
    go_wp2_with fail
    refine bodyPost_ret (v := .tuple #[.agg #[.int .i64 0, .int .i64 0, .slice none 0 0], .int .i64 1]) (by simp [g0, g1, g2, results, Try.results49, go_sem]) rfl ⟨_, by unfold nJN pJN; rw [hcode]; rfl, by unfold lJN; rw [hcode]; exact OwnII.empty _ _ _, ((hbt.out.setCell (by simp; omega) _).setCell (by simp; omega) _).setCell (by simp; omega) _⟩
  | true =>
  replace e2 := hid e2
  have A0 := hA2.cell 0 rfl
  have B0 := hB2.cell 0 rfl
  cases e3 : (n == m) with
  | false =>
    have e3' : (n != m) = true := by simp [bne, e3]
    have e3n := hid (show ¬ n = m by simpa using e3)
    have hcode : codeJN n p la m q lb = 6 := by unfold codeJN; rw [e1.out, e2.out]; simp [e3n.out]
    have g5 := ((hR2.set 0 (.int .i64 0)).set 1 (.int .i64 0)).set 2 (.slice none 0 0)
    have R0 := hR2.cell 0 rfl
    have R1 := hR2.cell 1 rfl
    have R2 := hR2.cell 2 rfl
    have F0 := hR2.frozen 0
    have F1 := hR2.frozen 1
    have F2 := hR2.frozen 2
    have g0 := g5.cell 0 rfl
    have g1 := g5.cell 1 rfl
    have g2 := g5.cell 2 rfl
    have hbt := hid hb2
    go_wp2_with fail
    refine bodyPost_ret (v := .tuple #[.agg #[.int .i64 0, .int .i64 0, .slice none 0 0], .int .i64 6]) (by simp [g0, g1, g2, results, Try.results49, go_sem]) rfl ⟨_, by unfold nJN pJN; rw [hcode]; rfl, by unfold lJN; rw [hcode]; exact OwnII.empty _ _ _, ((hbt.out.setCell (by simp; omega) _).setCell (by simp; omega) _).setCell (by simp; omega) _⟩
  | true =>
  have e3' : (n != m) = false := by simp [bne, e3]
  obtain rfl : n = m := by simpa using e3
  have q1 := normB_of e1.out
  have q2 := normB_of e2.out
  obtain ⟨q10, q11, q12, q13, q14, q15, -⟩ := q1
  obtain ⟨-, -, q22, q23, q24, q25, -⟩ := q2
  obtain ⟨a, rfl⟩ := Int.eq_ofNat_of_zero_le q10
  obtain ⟨A, rfl⟩ : ∃ A : List (Pm a), la = vals A := ⟨_, (normB_vals e1.out).symm⟩
  obtain ⟨B, rfl⟩ : ∃ B : List (Pm a), lb = vals B := ⟨_, (normB_vals e2.out).symm⟩
  rw [length_vals] at q14 q24
  have hnA := hid (normB_nrm e1.out)
  have hnB := hid (normB_nrm e2.out)
  have hS := hid (jnS_eq p q A B)
  have hcA := two_of e1.out
  have hcB := two_of e2.out
  have hrA := rowsB_of hvr (hcA.imp id (by omega))
  have hrB := rowsB_of hur (hcB.imp id (by omega))
  have hvl : vs.length = A.length := by have := hvr.len; simpa using this
  have hul : us.length = B.length := by have := hur.len; simpa using this
  obtain ⟨f, w3, hrun, hf, hg⟩ := app_run (T := 22) (ty := 22) (ys := vs) sliceII infoSI rfl (own_empty w2 32 (B := w2.heap.size) (Nat.le_refl _)) (hv.below ((Below.refl _ _).alloc (Nat.le_refl _) (.cells #[] 32))) hrA.one (by simp) (by simp; omega) (by decide)
  simp only [List.nil_append] at hf
  have hbE : Below w2.heap.size w2 w3 := ((Below.refl _ _).alloc (Nat.le_refl _) _).grown hg (by simp) (fun k hk => by simp [blk] at hk; omega)
  have hO3 : RowsO w3 0 w2.heap.size f vs (vals A) := ⟨hf, hrA.below hbE, fun i hi k hk e => by
    have h1 := hrA.blks i hi k hk
    have h2 := (hf.blk_lt e.symm).1
    omega⟩
  obtain ⟨fa, fn, fc, rfl⟩ := own_lit hf
  have hcE := (hA2.alloc (.cells #[] 32)).cell 2 rfl
  have hB1 := (hB2.below hbE).cell 1 rfl
  have hz3 := hbE.size
  replace hA2 := hid hA2
  replace hB2 := hid hB2
  replace hR2 := hid hR2
  replace hb2 := hid hb2
  replace hO3 := hid hO3
  replace hbE := hid hbE
  replace hrB := hid hrB
  replace hu := hid hu
  clear hf hg hrA hv hvr hur
  by_cases hpar : q % 2 = 0
  case' pos =>
    have hpr := tm_even hpar
    obtain ⟨o, wF, usF, hOF, hbF, hwe⟩ : ∃ o wF usF, Hid (RowsO wF 0 w2.heap.size o usF (vals (A.map ((gar a).tw q)))) ∧ Hid (Below w2.heap.size w2 wF) ∧ (wF = w3 ∧ o = .slice fa fn fc) := ⟨_, w3, vs, by rw [tw_even hpar]; exact hO3, hbE, rfl, rfl⟩
    obtain ⟨hwe, hoe⟩ := hwe
    subst hwe hoe
    have hBF := (hB2.out.below hbF.out).cell 2 rfl
    have hln : (usF.length : Nat) = A.length := by have := hOF.out.len; simpa using this
    obtain ⟨v', wG, hrun2, hoG, hrG, hbG⟩ := hOF.out.both (hu.out.below hbF.out) (hrB.out.below hbF.out) (fun i hi k hk e => by have h1 := hrB.out.blks i hi k hk; have h2 := (hOF.out.own.blk_lt e.symm).1; omega) (by have := hbF.out.size; omega) (by omega)
    have hAG := (hA2.out.below hbF.out).keep (hbG.block _ (by omega))
    have G0 := hAG.cell 0 rfl
    go_wp2_with (first | (at_builtin; refine wpList_app hrun rfl _ _ rfl rfl rfl ?_) | (at_builtin; refine wpList_app hrun2 rfl _ _ rfl rfl rfl ?_))
  case' neg =>
    have hpr := tm_odd hpar
    go_wp2_with (at_builtin; refine wpList_app hrun rfl _ _ rfl rfl rfl ?_)
    refine (flipAll_spec _ vs A w3 0 (Nat.zero_le _) hO3.out.own.reads hO3.out.rows (by omega) (by omega)).mono ?_
    rintro e wF ⟨o, usF, rfl, hOF', hsF⟩
    rw [← tw_odd hpar] at hOF'
    have hOF := hid (hOF'.lower (B' := w2.heap.size) (Nat.le_refl 0) (by omega))
    have hbF := hid (hbE.out.trans (hsF.mono hz3))
    have hBF := (hB2.out.below hbF.out).cell 2 rfl
    have hln : (usF.length : Nat) = A.length := by have := hOF.out.len; simpa using this
    obtain ⟨v', wG, hrun2, hoG, hrG, hbG⟩ := hOF.out.both (hu.out.below hbF.out) (hrB.out.below hbF.out) (fun i hi k hk e => by have h1 := hrB.out.blks i hi k hk; have h2 := (hOF.out.own.blk_lt e.symm).1; omega) (by have := hbF.out.size; omega) (by omega)
    have hAG := (hA2.out.below hbF.out).keep (hbG.block _ (by omega))
    have G0 := hAG.cell 0 rfl
    clear hOF' hsF
    go_wp2_with (at_builtin; refine wpList_app hrun2 rfl _ _ rfl rfl rfl ?_)
  all_goals
    have hbWG := hid (hbF.out.trans hbG)
    have hzG := hbWG.out.size
    clear hbG hAG G0 hBF hcE hB1 A0 B0 hOF
    refine (settle_spec v' (usF ++ us) (A.map ((gar a).tw q) ++ B) wG 0 (Nat.zero_le _) hoG.reads (by rw [vals_append]; exact hrG) (by simp; omega) (by omega)).mono ?_
    rintro e w5 ⟨r, usr, rfl, hr, hrr, hs5, hp0, hp1⟩
    rw [List.length_append, List.length_map] at hp1
    have hSR := hid (show jnS (a : Int) p (vals A) q (vals B) = (((gar a).NF (0, A.map ((gar a).tw q) ++ B)).1 + (p + q), ((gar a).NF (0, A.map ((gar a).tw q) ++ B)).2) from hS.out.trans (by have := (gar a).NF_up (p + q) 0 (A.map ((gar a).tw q) ++ B); rwa [Int.zero_add] at this))
    have hRl := ((gar a).NF_len 0 (A.map ((gar a).tw q) ++ B)).1
    rw [List.length_append, List.length_map] at hRl
    have hz0 := hid (show a < 2 → p + q + ((gar a).NF (0, A.map ((gar a).tw q) ++ B)).1 = 0 from fun h2 => by
      rw [hcA.resolve_right (by omega), hcB.resolve_right (by omega)]
      have e0 : (gar a).NF (0, ([] : List (Pm a)).map ((gar a).tw q) ++ []) = (0, []) := rfl
      rw [e0]
      have a1 := q15.resolve_left (by omega)
      have a2 := q25.resolve_left (by omega)
      rw [a1, a2]; rfl)
    generalize hRe : (gar a).NF (0, A.map ((gar a).tw q) ++ B) = R at *
    have hnr := hid (show (gar a).Nrm R.2 from by rw [← hRe]; exact (gar a).nrm_NF _)
    clear hRe
    have hz5 := hs5.size
    have hbW5 := hid (hbWG.out.trans (hs5.mono (by omega)))
    have hA5 := hA2.out.below hbW5.out
    have hB5 := hB2.out.below hbW5.out
    have hR5 := hid (hR2.out.below hbW5.out)
    have G0 := hA5.cell 0 rfl
    have G1 := hA5.cell 1 rfl
    have G2 := hB5.cell 1 rfl
    have hul5 : usr.length = R.2.length := by have := hrr.rows.len; simpa using this
    have hln5 := hr.reads.len (P := Try.prog) 22 3 ⟨_, sliceII⟩
    rw [hul5] at hln5
    have hX5 := hid (Bx.new w5 #[.int .i64 a, .int .i64 (p + q + R.1), .slice none 0 0] 27)
    have hz6 : (w5.alloc (.cells #[.int .i64 a, .int .i64 (p + q + R.1), .slice none 0 0] 27)).heap.size = w5.heap.size + 1 := by simp
    have hb6 := hid ((Below.refl w5.heap.size w5).alloc (Nat.le_refl _) (.cells #[.int .i64 a, .int .i64 (p + q + R.1), .slice none 0 0] 27))
    replace hr := hid hr
    replace hrr := hid hrr
    clear hs5 hoG hrG hA5 hB5 hcA hcB
    go_wp2_with fail
    generalize w5.alloc (.cells #[.int .i64 a, .int .i64 (p + q + R.1), .slice none 0 0] 27) = w6 at *
    go_loopw [10] (fun i wr => ∃ (j : Nat) (o : Value) (us : List Value), j ≤ R.2.length ∧ i = .int .i64 j ∧ NB wr (w5.heap.size + 1) o us (R.2.take j) ∧ Bx wr w5.heap.size [.int .i64 a, .int .i64 (p + q + R.1), o] ∧ Below w5.heap.size w5 wr ∧ w5.heap.size + 1 ≤ wr.heap.size) (fun i _ => R.2.length - (intOf i).toNat)
    case atStart => exact ⟨0, .slice none 0 0, [], by omega, rfl, NB.nil a _ _, hX5.out, hb6.out, by omega⟩
    case round =>
      clear hX5 hb6
      obtain ⟨j, o, us, hj, rfl, hN, hX, hbw, hwz⟩ := hrel
      by_cases hlt : j < R.2.length
      case pos =>
        have hi := hr.out.reads.idx 22 sliceII sizeSI .i64 j (by omega) (by rw [hul5]; omega)
        simp only [Int.toNat_natCast] at hi
        have hc := (hr.out.reads.below (hbw.trans ((Below.refl wr.heap.size wr).drew.mono hbw.size))).cell j _ (vat_of (by omega))
        have hrow := hid (fun (w' : World) (hw : Below wr.heap.size wr w') => by have := ((hrr.out.rows.row j (by rw [length_vals]; exact hlt)).below hbw).below hw; rwa [rat_vals hlt] at this)
        have hC := hid (fun (w' : World) (hw : Below wr.heap.size wr w') => own_copy (vat usr j) (pat R.2 j).1 w' (hrow.out w' hw) (by rw [Pm.len]; omega))
        have N2 := hX.drew.cell 2 rfl
        have hbD := hid ((Below.refl wr.heap.size wr).drew)
        have hN' := hid hN
        have hX' := hid hX
        have hbw' := hid hbw
        have hdz : wr.drew.heap.size = wr.heap.size := rfl
        have htl : (R.2.take j).length ≤ 1048576 := by simp; omega
        clear hN hX hbw
        go_wp2_with fail
        go_region_law ((first | (refine step_call (hC.out _ hbD.out) (fun _ => by kernel_rfl) rfl (.tmp 66) rfl (by simp [Act.eval]) ?_; rintro e w3 ⟨x, rfl, hx, hs3⟩; refine ⟨_, rfl, ?_⟩; obtain ⟨xa, xn, xc, rfl⟩ := own_lit hx; have hbS : Below wr.heap.size wr w3 := hbD.out.trans hs3; obtain ⟨v', w4, hrun, hN4, hb4⟩ := hN'.out.app hbS hwz hx htl; have hX3 := hX'.out.below hbS; have hX4 := hX3.belowB hb4 (by omega); have c3 := hX3.cell 2 rfl; have c3a := (hX3.alloc (.cells #[.slice xa xn xc] 32)).cell 2 rfl; have c4 := hX4.cell 2 rfl; have f4 := hX4.frozen 2; have hz4 := hb4.size; obtain ⟨va, vn, vc, rfl⟩ := own_lit hN4.own) | (refine step_app hrun rfl (.tmp 62) (.tmp 68) rfl (by simp [Act.eval]) (by simp [Act.eval]) ?_)))
        all_goals
          have hXS := hid (hX4.set 2 (.slice va vn vc))
          have hNS := hid (hN4.set_block (g := w5.heap.size) (by omega) 2 (.slice va vn vc))
          have hbS' := hid (((hbw'.out.trans (hbS.mono (by omega))).trans (hb4.mono (by omega))).setCell (p := ⟨w5.heap.size, 2, none⟩) (Nat.le_refl _) (.slice va vn vc))
          have hzS : w5.heap.size + 1 ≤ (w4.setCell ⟨w5.heap.size, 2, none⟩ (.slice va vn vc)).heap.size := by have := hbS.size; simp [World.setCell]; omega
          clear hN' hX' hbw' hrow hC hbD hX4 hX3 hN4 hb4 hbS hx hs3 c3 c3a htl
          go_wp2_with fail
          go_roundw
          case rel => exact ⟨j + 1, _, _, by omega, by go_num, by rw [take_pat hlt]; exact hNS.out, hXS.out, hbS'.out, hzS⟩
          case measure => simp [intOf]; omega
      case neg =>
        obtain rfl : j = R.2.length := by omega
        rw [List.take_of_length_le (Nat.le_refl _)] at hN
        have hok := hid (show okJ a p (vals A) q (vals B) = normB a (p + q + R.1) (vals R.2) from by
          have e2 : 2 ≤ a ∨ p + q + R.1 = 0 := by
            rcases Nat.lt_or_ge a 2 with h2 | h2
            · exact .inr (hz0.out h2)
            · exact .inl h2
          rw [nrm_normB (by omega) hnr.out e2]
          show (inB (jnS (a : Int) p (vals A) q (vals B)).1 (-100) 100 && decide ((jnS (a : Int) p (vals A) q (vals B)).2.length ≤ 100)) = _
          rw [hSR.out, Int.add_comm R.1 (p + q)])
        have hS1 := hid (show (jnS (a : Int) p (vals A) q (vals B)).1 = p + q + R.1 from by rw [hSR.out, Int.add_comm])
        have hS2 := hid (show vals (jnS (a : Int) p (vals A) q (vals B)).2 = vals R.2 from by rw [hSR.out])
        clear hS hSR
        replace hN := hid hN
        replace hX := hid hX
        replace hbw := hid hbw
        clear G0 G1 G2
        go_wp2_with fail
        refine (l04ok_spec w5.heap.size a (p + q + R.1) o us (vals R.2) wr hX.out hN.out.own.reads hN.out.rowsR).mono ?_
        rintro e w7 ⟨rfl, hs7⟩
        obtain ⟨oa, on, oc, rfl⟩ := own_lit hN.out.own
        have hX7 := hX.out.below hs7
        have X0 := hX7.cell 0 rfl
        have X1 := hX7.cell 1 rfl
        have X2 := hX7.cell 2 rfl
        have hb7 := hid ((hbW5.out.trans (hbw.out.mono (by omega))).trans (hs7.mono (by omega)))
        have hR7 := hid (hR2.out.below hb7.out)
        have hN7 := (hN.out.below hs7).ownII
        have hbt7 := hid (hb2.out.trans (hb7.out.mono (by omega)))
        have hO7 := hid (hN7.widen (lo' := w.heap.size + 1 + 1 + 1) (by omega) (Nat.le_refl _))
        clear hs7 hN hX hN7 hX7 hbw
        cases e4 : normB a (p + q + R.1) (vals R.2) with
        | false =>
          have hcode : codeJN a p (vals A) a q (vals B) = 5 := by unfold codeJN; rw [e1.out, e2.out, hok.out, e4]; simp
          have g5 := ((hR7.out.set 0 (.int .i64 0)).set 1 (.int .i64 0)).set 2 (.slice none 0 0)
          have R0 := hR7.out.cell 0 rfl
          have R1 := hR7.out.cell 1 rfl
          have R2 := hR7.out.cell 2 rfl
          have F0 := hR7.out.frozen 0
          have F1 := hR7.out.frozen 1
          have F2 := hR7.out.frozen 2
          have g0 := g5.cell 0 rfl
          have g1 := g5.cell 1 rfl
          have g2 := g5.cell 2 rfl
          have hbt := hid hbt7.out
          go_wp2_with fail
          refine bodyPost_ret (v := .tuple #[.agg #[.int .i64 0, .int .i64 0, .slice none 0 0], .int .i64 5]) (by simp [g0, g1, g2, results, Try.results49, go_sem]) rfl ⟨_, by unfold nJN pJN; rw [hcode]; rfl, by unfold lJN; rw [hcode]; exact OwnII.empty _ _ _, ((hbt.out.setCell (by simp; omega) _).setCell (by simp; omega) _).setCell (by simp; omega) _⟩
        | true =>
          have hcode : codeJN a p (vals A) a q (vals B) = 0 := by unfold codeJN; rw [e1.out, e2.out, hok.out, e4]; simp
          have R0 := hR7.out.cell 0 rfl
          have R1 := hR7.out.cell 1 rfl
          have R2 := hR7.out.cell 2 rfl
          have F0 := hR7.out.frozen 0
          have F1 := hR7.out.frozen 1
          have F2 := hR7.out.frozen 2
          have g5 := ((hR7.out.set 0 (.int .i64 a)).set 1 (.int .i64 (p + q + R.1))).set 2 (.slice oa on oc)
          have g0 := g5.cell 0 rfl
          have g1 := g5.cell 1 rfl
          have g2 := g5.cell 2 rfl
          have hE := hid (((hO7.out.setAt (g := w.heap.size + 1 + 1) (by omega) 0 (.int .i64 a)).setAt (g := w.heap.size + 1 + 1) (by omega) 1 (.int .i64 (p + q + R.1))).setAt (g := w.heap.size + 1 + 1) (by omega) 2 (.slice oa on oc))
          clear g5
          go_wp2_with fail
          refine bodyPost_ret (v := .tuple #[.agg #[.int .i64 a, .int .i64 (p + q + R.1), .slice oa on oc], .int .i64 0]) (by simp [g0, g1, g2, results, Try.results49, go_sem]) rfl ⟨_, by unfold nJN pJN; rw [hcode, if_pos rfl, if_pos rfl, hS1.out], by unfold lJN; rw [hcode, if_pos rfl, hS2.out]; exact hE.out.lowered (by omega) (by simp [World.setCell]), ((hbt7.out.setCell (by simp; omega) _).setCell (by simp; omega) _).setCell (by simp; omega) _⟩


end Go.Proofs.Ytmeccemnmkobbaa
