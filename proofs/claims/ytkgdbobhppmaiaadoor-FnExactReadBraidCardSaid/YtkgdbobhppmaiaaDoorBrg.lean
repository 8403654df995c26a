/- Contracts: words without letters that cancel. -/
import Derived.Test.YtkgdbobhppmaiaaDoorBre
import Derived.Test.YtkgdbobhppmaiaaDoorSli
import Derived.Test.YtkgdbobhppmaiaaDoorBrf
namespace Go.Proofs.YtkgdbobhppmaiaaDoor
open Go.RowKit

/-- one letter more: it cancels the last one, or it is appended -/
def redPush (out : List Int) (k : Int) : List Int := if 0 < out.length ∧ nth out (out.length - 1) = -k then out.take (out.length - 1) else out ++ [k]
/-- the word without letters that cancel -/
def redW (l : List Int) : List Int := l.foldl redPush []
theorem redW_take {l : List Int} {k : Nat} (h : k < l.length) : redW (l.take (k + 1)) = redPush (redW (l.take k)) (nth l k) := by
  rw [List.take_add_one, nth_of h, redW, List.foldl_append]; rfl
theorem length_redPush (out : List Int) (k : Int) : (redPush out k).length ≤ out.length + 1 := by
  unfold redPush; split <;> simp; omega
theorem length_redW (l : List Int) (k : Nat) : (redW (l.take k)).length ≤ k := by
  induction k with
  | zero => simp [redW]
  | succ k ih =>
    rcases Nat.lt_or_ge k l.length with h | h
    · rw [redW_take h]; have := length_redPush (redW (l.take k)) (nth l k); omega
    · rw [List.take_of_length_le (by omega)]; rw [List.take_of_length_le (by omega)] at ih; omega


theorem redPush_pop {o : List Int} {k : Int} (h : 0 < o.length) (e : nth o (o.length - 1) = -k) : redPush o k = o.take (o.length - 1) := by unfold redPush; rw [if_pos ⟨h, e⟩]
theorem redPush_app {o : List Int} {k : Int} (h : ¬ (0 < o.length ∧ nth o (o.length - 1) = -k)) : redPush o k = o ++ [k] := by unfold redPush; rw [if_neg h]


set_option maxRecDepth 100000 in
set_option maxHeartbeats 2000000 in
theorem red_impl (v : Value) (l : List Int) (w : World) (h : Reads w v (ints l)) (hl : l.length ≤ 1048576) (hr : ∀ k, k < l.length → -1000 ≤ nth l k ∧ nth l k ≤ 1000) :
    Calls Tryd.prog 77 #[v] w fun e w' => ∃ u, e = .returned u ∧ Own w' w.heap.size 2 u (ints (redW l)) ∧ Below w.heap.size w w' := by
  have hs := h.small
  have hlen := h.len (P := Tryd.prog) 35 3 ⟨_, sliceI⟩
  simp only [length_ints] at hs hlen
  have hmk := cap_run sliceI infoI rfl l.length (by omega) (by omega) (by omega)
  simp only [Int.toNat_natCast] at hmk
  go_enter Tryd.func77, Tryd.ntmps77
  go_wp2_with fail
  go_loopw [3, 5, 11] (fun u _ i wr => ∃ k : Nat, k ≤ l.length ∧ i = .int .i64 k ∧ Own wr w.heap.size 2 u (ints (redW (l.take k))) ∧ Below w.heap.size w wr) (fun u _ i _ => l.length - (intOf i).toNat)
  case atStart =>
    exact ⟨0, by omega, by simp, own_cap w _ _ _ (by omega) (Nat.le_refl _), below_made _ _ _ _⟩
  case round =>
    obtain ⟨k, hk, rfl, hown, hb⟩ := hrel
    have hol := length_redW l k
    by_cases hlt : k < l.length
    · have hi := h.idx 35 sliceI sizeI .i64 k (by omega) (by simpa using hlt)
      simp only [Int.toNat_natCast] at hi
      have hc := (h.below hb).int hlt
      have hra := hr k hlt
      have hE := hid (redW_take hlt)
      clear hr
      generalize redW (l.take k) = o at *
      generalize nth l k = a at *
      have hlo := hown.reads.len (P := Tryd.prog) 35 3 ⟨_, sliceI⟩
      simp only [length_ints] at hlo
      by_cases ho : 0 < o.length
      · have hi2 := hown.reads.idx 35 sliceI sizeI .i64 ((o.length : Int) - 1) (by omega) (by simp; omega)
        rw [show ((o.length : Int) - 1).toNat = o.length - 1 by omega] at hi2
        have hd := hown.reads.int (i := o.length - 1) (by omega)
        have hsl := hown.reads.upto_run (P := Tryd.prog) sliceI sizeI .i64 ((o.length : Int) - 1) (by omega) (by simp; omega)
        rw [show ((o.length : Int) - 1).toNat = o.length - 1 by omega] at hsl
        cases he : (nth o (o.length - 1) == -a) with
        | true =>
          have he' := hid (show nth o (o.length - 1) = -a by simpa using he)
          have hst : Own wr w.heap.size 2 (upto u3 (o.length - 1)) (ints (redW (l.take (k + 1)))) := by
            rw [hE.out, redPush_pop ho he'.out]
            have := hown.upto (o.length - 1) (by simp)
            simpa [ints, List.map_take] using this
          generalize nth o (o.length - 1) = z at *
          go_wp2_with fail
          go_roundw
          case rel => exact ⟨k + 1, by omega, by go_num, hst, hb⟩
          case measure => simp [intOf]; omega
        | false =>
          have hne := (show ¬ (0 < o.length ∧ nth o (o.length - 1) = -a) from fun h => by rw [beq_eq_false_iff_ne] at he; exact he h.2)
          have hE2 := hid (hE.out.trans (redPush_app hne))
          clear hne hE
          generalize nth o (o.length - 1) = z at *
          obtain ⟨v', w', hrun, hown', hb'⟩ := app_one (ty := 35) (x := .int .i64 a) sliceI infoI rfl hown rfl hb.size (by simp; omega) (by decide) hb (Nat.le_refl _)
          have hst : Own w' w.heap.size 2 v' (ints (redW (l.take (k + 1)))) := by rw [hE2.out]; simpa [ints] using hown'
          clear hown'
          go_wp2_with (at_builtin; refine wpList_app hrun rfl _ _ rfl rfl rfl ?_)
          go_roundw
          case rel => exact ⟨k + 1, by omega, by go_num, hst, hb'⟩
          case measure => simp [intOf]; omega
      · have hl0 : o.length = 0 := by omega
        have hE2 := hid (hE.out.trans (redPush_app (fun h => ho h.1)))
        clear hE
        obtain ⟨v', w', hrun, hown', hb'⟩ := app_one (ty := 35) (x := .int .i64 a) sliceI infoI rfl hown rfl hb.size (by simp; omega) (by decide) hb (Nat.le_refl _)
        have hst : Own w' w.heap.size 2 v' (ints (redW (l.take (k + 1)))) := by rw [hE2.out]; simpa [ints] using hown'
        clear hown'
        go_wp2_with (at_builtin; refine wpList_app hrun rfl _ _ rfl rfl rfl ?_)
        go_roundw
        case rel => exact ⟨k + 1, by omega, by go_num, hst, hb'⟩
        case measure => simp [intOf]; omega
    · obtain rfl : k = l.length := by omega
      go_wp2_with fail
      go_ret
      refine ⟨_, rfl, ?_, hb⟩
      rw [List.take_of_length_le (Nat.le_refl _)] at hown
      exact hown


set_option maxRecDepth 100000 in
set_option maxHeartbeats 2000000 in
theorem vred_impl (n : Int) (v : Value) (l : List Int) (w : World) (h : Reads w v (ints l)) :
    Calls Tryd.prog 42 #[.agg #[.int .i64 n, v]] w fun e w' => ∃ u, e = .returned (.agg #[.int .i64 (okN n l), u]) ∧ Own w' w.heap.size 2 u (ints (okL n l (redW l))) ∧ Below w.heap.size w w' := by
  have hr0 := reads_alloc (reads_alloc h (.cells #[.int .i64 n, v] 40)) (.cells #[.int .i64 0, .slice none 0 0] 40)
  have hA := own_alloc (own_arr w 40 #[.int .i64 n, v] 2 rfl (by omega) (Nat.zero_le _)) (.cells #[.int .i64 0, .slice none 0 0] 40)
  have hR := own_arr (w.alloc (.cells #[.int .i64 n, v] 40)) 40 #[.int .i64 0, .slice none 0 0] 2 rfl (by omega) (Nat.zero_le _)
  have hbox : Below w.heap.size w ((w.alloc (.cells #[.int .i64 n, v] 40)).alloc (.cells #[.int .i64 0, .slice none 0 0] 40)) := ((Below.refl _ _).alloc (Nat.le_refl _) _).alloc (by simp) _
  go_enter Tryd.func42, Tryd.ntmps42
  go_wp2_with fail
  generalize hW : ((w.alloc (.cells #[.int .i64 n, v] 40)).alloc (.cells #[.int .i64 0, .slice none 0 0] 40)) = w2 at *
  have hsz : w2.heap.size = w.heap.size + 1 + 1 := by rw [← hW]; simp
  clear hW
  simp only [World.size_alloc] at hR
  have cA0 := hA.reads.cell 0 _ rfl
  have cA1 := hA.reads.cell 1 _ rfl
  rw [adr_arr] at cA0 cA1
  refine (vb_impl n v l _ hr0).mono ?_
  clear cA0 cA1
  rintro e w3 ⟨rfl, hs3⟩
  have hb3 := hbox.trans (hs3.mono (by omega))
  have hA3 := hA.below hs3
  have hR3 := hR.below hs3
  have hr3 := hr0.below hs3
  have hsz3 := hs3.size
  clear hs3 hA hR hbox hr0
  have cA0 := hA3.reads.cell 0 _ rfl
  have cA1 := hA3.reads.cell 1 _ rfl
  have cR0 := hR3.reads.cell 0 _ rfl
  have cR1 := hR3.reads.cell 1 _ rfl
  have fR0 := hR3.frozen (i := 0) (by simp)
  have fR1 := hR3.frozen (i := 1) (by simp)
  rw [adr_arr] at cA0 cA1 cR0 cR1 fR0 fR1
  cases e1 : okB n l with
  | false =>
    go_wp2_with fail
    have g5 := World.cell?_setCell_same _ _ (.int .i64 0) cR0
    have g5' := (World.cell?_setCell_other w3 ⟨w.heap.size + 1, 0, none⟩ ⟨w.heap.size + 1, 1, none⟩ (.int .i64 0) (by simp)).trans cR1
    have g6 := World.cell?_setCell_same _ _ (.slice none 0 0) g5'
    have g6' := (World.cell?_setCell_other (w3.setCell ⟨w.heap.size + 1, 0, none⟩ (.int .i64 0)) ⟨w.heap.size + 1, 1, none⟩ ⟨w.heap.size + 1, 0, none⟩ (.slice none 0 0) (by simp)).trans g5
    refine bodyPost_ret (v := .agg #[.int .i64 0, .slice none 0 0]) (by simp [g6, g6', results, Tryd.results42, go_sem]) rfl ⟨_, by simp [okN, e1]; rfl, ?_, ?_⟩
    · simp only [okL, e1]; exact own_nilB _ _ _
    · exact (hb3.setCell (by simp) _).setCell (by simp) _
  | true =>
    obtain ⟨q0, q1, q2, q3⟩ := okB_of e1
    go_wp2_with fail
    have hI := hid (fun (w' : World) (hw : Reads w' v (ints l)) => red_impl v l w' hw (by omega) (fun k hk => by have := q3 k hk; omega))
    have hr3d := hid (hr3.drewN 1)
    have hK := hid (fun (w' : World) (hw : Below w3.drew.heap.size w3.drew w') => (⟨(hA3.drewN 1).below hw, (hR3.drewN 1).below hw⟩ : _ ∧ _))
    clear hA3 hR3 hr3 q3
    go_region_with (go_at_call 77; refine (hI.out _ hr3d.out).mono ?_; rintro e w4 ⟨u, rfl, ho, hs⟩; obtain ⟨ua, um, uc, rfl⟩ := ho.form3; obtain ⟨hA4, hR4⟩ := hK.out _ hs; have dA0 := hA4.reads.cell 0 _ rfl; have dA1 := hA4.reads.cell 1 _ rfl; have dR0 := hR4.reads.cell 0 _ rfl; have dR1 := hR4.reads.cell 1 _ rfl; have gR0 := hR4.frozen (i := 0) (by simp); have gR1 := hR4.frozen (i := 1) (by simp); rw [adr_arr] at dA0 dA1 dR0 dR1 gR0 gR1)
    all_goals
      go_wp2_with fail
      have hb4 := hb3.trans (((Below.refl _ w3).drew.trans (hs.mono (Nat.le_refl _))).mono hb3.size)
      have g5 := World.cell?_setCell_same _ _ (.int .i64 n) dR0
      have g5' := (World.cell?_setCell_other w4 ⟨w.heap.size + 1, 0, none⟩ ⟨w.heap.size + 1, 1, none⟩ (.int .i64 n) (by simp)).trans dR1
      have g6 := World.cell?_setCell_same _ _ (.slice ua um uc) g5'
      have g6' := (World.cell?_setCell_other (w4.setCell ⟨w.heap.size + 1, 0, none⟩ (.int .i64 n)) ⟨w.heap.size + 1, 1, none⟩ ⟨w.heap.size + 1, 0, none⟩ (.slice ua um uc) (by simp)).trans g5
      refine bodyPost_ret (v := .agg #[.int .i64 n, .slice ua um uc]) (by simp [g6, g6', results, Tryd.results42, go_sem]) rfl ⟨_, by simp [okN, e1]; rfl, ?_, ?_⟩
      · simp only [okL, e1, ↓reduceIte]
        exact ((ho.set_far (w.heap.size + 1) _ _ (by simp; omega)).set_far (w.heap.size + 1) _ _ (by simp; omega)).mono (by simp; omega)
      · exact (hb4.setCell (by simp) _).setCell (by simp) _


end Go.Proofs.YtkgdbobhppmaiaaDoor
