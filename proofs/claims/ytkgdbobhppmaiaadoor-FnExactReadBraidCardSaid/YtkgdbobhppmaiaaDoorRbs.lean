/- Texts of braids are read back: contract of the reference. -/
import Derived.Test.YtkgdbobhppmaiaaDoorLd9
namespace Go.Proofs.YtkgdbobhppmaiaaDoor
open Go.RowKit
open Go.Lib (itoa cut)

theorem lat_cons_zero (p : List UInt8) (L : List (List UInt8)) : lat (p :: L) 0 = p := rfl
theorem lat_drop {P : List (List UInt8)} {j : Nat} (_h : j + 1 < P.length) : lat P (j + 1) = lat (P.drop 1) j := by
  simp [lat]
/-- what is read where the text is that of a valid braid -/
theorem rb_parts {S : List UInt8} {n : Int} {l : List Int} (h : okB n l = true) (ht : btTo n l l.length = S) :
    (parts S).length ≤ 41 ∧ 2 ≤ (lat (parts S) 0).length ∧ rdN (lat (parts S) 0).dropLast = n ∧ rdB (lat (parts S) 0).dropLast = true ∧ ((parts S).drop 1).map rdN = l ∧ ∀ j, j + 1 < (parts S).length → rdB (lat (parts S) (j + 1)) = true := by
  have hp := parts_text n l
  rw [ht] at hp
  obtain ⟨q0, q1, q2, -⟩ := okB_of h
  have hr := rd_back (k := n) (by omega) (by omega)
  have hw := words_all l (ok_bd h)
  rw [hp]
  refine ⟨by simp; omega, ?_, ?_, ?_, ?_, ?_⟩
  · rw [lat_cons_zero, List.length_append]
    have := itoa_ne_nil n
    have : 0 < (itoa n).length := List.length_pos_iff.2 this
    simp; omega
  · rw [lat_cons_zero, List.dropLast_concat]; exact hr.1
  · rw [lat_cons_zero, List.dropLast_concat]; exact hr.2
  · exact hw.1
  · intro j hj
    rw [lat_drop hj]
    show rdB (lat (l.map itoa) j) = true
    rw [List.length_cons] at hj
    have e3 : lat (l.map itoa) j = (l.map itoa)[j] := by unfold lat; rw [List.getElem?_eq_getElem (by omega)]; rfl
    rw [e3]
    exact hw.2 _ (List.getElem_mem _)
theorem take_tail {P : List (List UInt8)} {k : Nat} (h : k + 1 < P.length) : ((P.drop 1).take (k + 1)).map rdN = ((P.drop 1).take k).map rdN ++ [rdN (lat P (k + 1))] := by
  rw [lat_drop h]
  exact lat_take (by simp; omega)


set_option maxRecDepth 100000 in
set_option maxHeartbeats 8000000 in
theorem ReadBraidS (s : ByteArray) (w : World) (hs : s.size ≤ 1048576) :
    Calls Tryd.prog 35 #[.string s] w fun e w' => ∃ u, e = .returned (.tuple #[.agg #[.int .i64 (rbN s.data.toList), u], .bool (rbB s.data.toList)]) ∧ Own w' w.heap.size 2 u (ints (rbL s.data.toList)) ∧ Below w.heap.size w w' := by
  have hR0 := Bx.new w #[.int .i64 0, .slice none 0 0] 40
  have hb0 : Below w.heap.size w (w.alloc (.cells #[.int .i64 0, .slice none 0 0] 40)) := (Below.refl _ _).alloc (Nat.le_refl _) _
  have hz0 : (w.alloc (.cells #[.int .i64 0, .slice none 0 0] 40)).heap.size = w.heap.size + 1 := by simp
  have hpb := hid (parts_bd s.data.toList)
  have hpn := hid (parts_ne s.data.toList)
  have hkey := hid (fun (n : Int) (l : List Int) (h : okB n l = true) (ht : btTo n l l.length = s.data.toList) => rb_parts h ht)
  have hsl : s.data.toList.length = s.size := rfl
  go_enter Tryd.func35, Tryd.ntmps35
  go_wp2_with fail
  generalize w.alloc (.cells #[.int .i64 0, .slice none 0 0] 40) = w0 at *
  refine (SplitS s w0 hs).mono ?_
  rintro e w1 ⟨v, rfl, hv, hs1⟩
  have hR1 := hR0.below hs1
  have hz1 := hs1.size
  have hb1 := hb0.trans (hs1.mono hb0.size)
  replace hv := hv.reads
  clear hR0 hb0 hs1
  have r0 := hR1.cell 0 rfl
  have r1 := hR1.cell 1 rfl
  have f0 := hR1.frozen 0
  have f1 := hR1.frozen 1
  have g5 := (hR1.set 0 (.int .i64 0)).set 1 (.slice none 0 0)
  have g50 := g5.cell 0 rfl
  have g51 := g5.cell 1 rfl
  have hbF := hid ((hb1.setCell (p := ⟨w.heap.size, 0, none⟩) (Nat.le_refl _) (.int .i64 0)).setCell (p := ⟨w.heap.size, 1, none⟩) (Nat.le_refl _) (.slice none 0 0))
  clear g5
  obtain ⟨P, hP⟩ : ∃ P, parts s.data.toList = P := ⟨_, rfl⟩
  rw [hP] at hv
  rw [hP] at hpb
  rw [hP] at hpn
  have hkey2 := hid (show ∀ (n : Int) (l : List Int), okB n l = true → btTo n l l.length = s.data.toList → P.length ≤ 41 ∧ 2 ≤ (lat P 0).length ∧ rdN (lat P 0).dropLast = n ∧ rdB (lat P 0).dropLast = true ∧ (P.drop 1).map rdN = l ∧ ∀ j, j + 1 < P.length → rdB (lat P (j + 1)) = true from by rw [← hP]; exact hkey.out)
  clear hkey
  replace hP := hid hP
  have hP1 : 0 < P.length := List.length_pos_iff.2 hpn.out
  have hlen := hv.len (P := Tryd.prog) 30 3 ⟨_, sliceW⟩
  rw [length_ss] at hlen
  replace hb1 := hid hb1
  replace hR1 := hid hR1
  have hlb := hid (show ∀ k, k < P.length → (lat P k).length ≤ s.size from fun k hk => by
    have e3 : lat P k = P[k] := by simp [lat, hk]
    rw [e3]; exact hpb.out _ (List.getElem_mem hk))
  by_cases h41 : P.length ≤ 41
  case neg =>
    have hgt : (41 : Int) < (P.length : Int) := by omega
    have hno := hid (rb_no (s := s.data.toList) fun n l h ht => h41 (hkey2.out n l h ht).1)
    clear h41
    go_wp2_with fail
    refine bodyPost_ret (v := .tuple #[.agg #[.int .i64 0, .slice none 0 0], .bool false]) (by simp [g50, g51, results, Tryd.results35, go_sem]) rfl ⟨.slice none 0 0, by rw [hno.out.1, hno.out.2.2], by rw [hno.out.2.1]; exact Own.nilv _ _ _, hbF.out⟩
  case pos =>
  have hgt : ¬ (41 : Int) < (P.length : Int) := by omega
  have hi0 := hv.idx (P := Tryd.prog) 30 sliceW sizeW .i64 0 (by omega) (by rw [length_ss]; omega)
  simp only [Int.toNat_zero] at hi0
  have hc0 := hv.cell 0 _ (ss_at hP1)
  have hl0 := hlb.out 0 hP1
  obtain ⟨Q, hQ⟩ : ∃ Q : ByteArray, Q = ⟨(lat P 0).toArray⟩ := ⟨_, rfl⟩
  obtain ⟨q, hq⟩ : ∃ q, (lat P 0).length = q := ⟨_, rfl⟩
  have hQz : Q.size = q := by rw [hQ, ba_size, hq]
  rw [hq] at hl0
  have hQl : Q.data.toList = lat P 0 := by rw [hQ]
  rw [← hQ] at hc0
  by_cases h2 : q < 2
  case pos =>
    have hlt : (q : Int) < 2 := by omega
    have hno := hid (rb_no (s := s.data.toList) fun n l h ht => by have := (hkey2.out n l h ht).2.1; omega)
    replace hQl := hid hQl
    replace hQ := hid hQ
    replace hq := hid hq
    clear h2
    go_wp2_with fail
    refine bodyPost_ret (v := .tuple #[.agg #[.int .i64 0, .slice none 0 0], .bool false]) (by simp [g50, g51, results, Tryd.results35, go_sem]) rfl ⟨.slice none 0 0, by rw [hno.out.1, hno.out.2.2], by rw [hno.out.2.1]; exact Own.nilv _ _ _, hbF.out⟩
  case neg =>
  have hlt : ¬ (q : Int) < 2 := by omega
  have hcutQ : Q.extract 0 (q - 1) = ⟨(lat P 0).dropLast.toArray⟩ := by
    rw [cut_eq Q 0 (q - 1) (by omega), hQl, ← hq, List.drop_zero, ← List.dropLast_eq_take]
  obtain ⟨T, hT⟩ : ∃ T : ByteArray, T = ⟨(lat P 0).dropLast.toArray⟩ := ⟨_, rfl⟩
  have hTs : T.size ≤ 1048576 := by rw [hT, ba_size, List.length_dropLast]; omega
  have hTl : T.data.toList = (lat P 0).dropLast := by rw [hT]
  rw [← hT] at hcutQ
  have hCN := hid (fun (w' : World) (hw : Below w1.heap.size w1 w') => (by
    have := NumS T w' hTs
    rw [hTl] at this
    exact this.mono fun e w'' ⟨h1, h2⟩ => ⟨h1, hw.trans (h2.mono hw.size)⟩ : Calls Tryd.prog 65 #[.string T] w' fun e w'' => e = .returned (.tuple #[.int .i64 (rdN (lat P 0).dropLast), .bool (rdB (lat P 0).dropLast)]) ∧ Below w1.heap.size w1 w''))
  have hK := hid (fun (w' : World) (h : Below w1.heap.size w1 w') => (by have := (hv.below h).cell 0 _ (ss_at hP1); rw [← hQ] at this; exact this : w'.cell? (adr v 0) = some (.string Q)))
  have hbD : Below w1.heap.size w1 w1.drew := (Below.refl _ _).drew
  have hq1 : (1 : Int) ≤ q := by omega
  have hq2 : (q : Int) - 1 ≤ q := by omega
  have htoN : ((q : Int) - 1).toNat = q - 1 := by omega
  have hwq := Go.IntWalk.i64_in ((q : Int) - 1) (by omega)
  replace hq := hid hq
  replace hQl := hid hQl
  replace hQ := hid hQ
  replace hT := hid hT
  replace hTl := hid hTl
  clear h2
  go_wp2_with fail
  refine wp_region_noPanic ?_
  refine wp_region_held_drew (S := fun w' => Below w1.heap.size w1 w' ∧ w'.cell? (adr v 0) = some (.string Q)) (by kernel_rfl) ?_ (fun hHeld => ?_)
  focus (first | exact ⟨hbD, hK.out _ hbD⟩ | exact ⟨by assumption, hK.out _ (by assumption)⟩)
  refine wpAnyH_take (i := 0) (v := ?_) rfl (by kernel_rfl) (by kernel_rfl) (by kernel_rfl) (fun _ _ _ h => h) (Or.inl ⟨by kernel_rfl, ?_⟩) (by assumption) ?_; rotate_left; (focus ((intro w hSw; (try dsimp only at hSw); go_simp) <;> with_reducible rfl)); (try dsimp [Act.put]); (try simp only [List.setIfInBounds_toArray, List.set_cons_zero, List.set_cons_succ])
  refine wpAnyH_take (i := 1) (v := ?_) rfl (by kernel_rfl) (by kernel_rfl) (by kernel_rfl) (fun _ _ _ h => h) (Or.inl ⟨by kernel_rfl, ?_⟩) (by assumption) ?_; rotate_left; (focus ((intro w hSw; (try dsimp only at hSw); go_simp) <;> with_reducible rfl)); (try dsimp [Act.put]); (try simp only [List.setIfInBounds_toArray, List.set_cons_zero, List.set_cons_succ])
  refine wpAnyH_take (i := 2) (v := ?_) rfl (by kernel_rfl) (by kernel_rfl) (by kernel_rfl) (fun _ _ _ h => h) (Or.inl ⟨by kernel_rfl, ?_⟩) (by assumption) ?_; rotate_left; (focus ((intro w hSw; (try dsimp only at hSw); go_simp) <;> with_reducible rfl)); (try dsimp [Act.put]); (try simp only [List.setIfInBounds_toArray, List.set_cons_zero, List.set_cons_succ])
  refine wpAnyH_take (i := 3) (v := ?_) rfl (by kernel_rfl) (by kernel_rfl) (by kernel_rfl) (fun _ _ _ h => h) (Or.inl ⟨by kernel_rfl, ?_⟩) (by assumption) ?_; rotate_left; (focus ((intro w hSw; (try dsimp only at hSw); go_simp) <;> with_reducible rfl)); (try dsimp [Act.put]); (try simp only [List.setIfInBounds_toArray, List.set_cons_zero, List.set_cons_succ])
  refine wpAnyH_take (i := 4) (v := ?_) rfl (by kernel_rfl) (by kernel_rfl) (by kernel_rfl) (fun _ _ _ h => h) (Or.inl ⟨by kernel_rfl, ?_⟩) (by assumption) ?_; rotate_left; (focus ((intro w hSw; (try dsimp only at hSw); go_simp) <;> with_reducible rfl)); (try dsimp [Act.put]); (try simp only [List.setIfInBounds_toArray, List.set_cons_zero, List.set_cons_succ])
  refine wpAnyH_take (i := 5) (v := ?_) rfl (by kernel_rfl) (by kernel_rfl) (by kernel_rfl) (fun _ _ _ h => h) (Or.inl ⟨by kernel_rfl, ?_⟩) (by assumption) ?_; rotate_left; (focus ((intro w hSw; (try dsimp only at hSw); go_simp) <;> with_reducible rfl)); (try dsimp [Act.put]); (try simp only [List.setIfInBounds_toArray, List.set_cons_zero, List.set_cons_succ])
  refine wpAnyH_take (i := 6) (v := ?_) rfl (by kernel_rfl) (by kernel_rfl) (by kernel_rfl) (fun _ _ _ h => h) (Or.inl ⟨by kernel_rfl, ?_⟩) (by assumption) ?_; rotate_left; (focus ((intro w hSw; (try dsimp only at hSw); go_simp) <;> with_reducible rfl)); (try dsimp [Act.put]); (try simp only [List.setIfInBounds_toArray, List.set_cons_zero, List.set_cons_succ])
  refine wpAnyH_take (i := 7) (v := ?_) rfl (by kernel_rfl) (by kernel_rfl) (by kernel_rfl) (fun _ _ _ h => h) (Or.inl ⟨by kernel_rfl, ?_⟩) (by assumption) ?_; rotate_left; (focus ((intro w hSw; (try dsimp only at hSw); go_simp) <;> with_reducible rfl)); (try dsimp [Act.put]); (try simp only [List.setIfInBounds_toArray, List.set_cons_zero, List.set_cons_succ])
  refine wpAnyH_take (i := 8) (v := ?_) rfl (by kernel_rfl) (by kernel_rfl) (by kernel_rfl) (fun _ _ _ h => h) (Or.inl ⟨by kernel_rfl, ?_⟩) (by assumption) ?_; rotate_left; (focus ((intro w hSw; (try dsimp only at hSw); go_simp) <;> with_reducible rfl)); (try dsimp [Act.put]); (try simp only [List.setIfInBounds_toArray, List.set_cons_zero, List.set_cons_succ])
  refine wpAnyH_ready (rs := [9]) (by kernel_rfl) (by simp) ?_
  refine AllReadyH.cons (o := { dst := some 33, op := .call { callee := .value (.func 65), args := #[.tmp 32], argTypes := #[9] }, type := _, pos := _, after := _, guard := _ }) rfl (fun KK hKK => ?_) AllReadyH.nil
  refine step_callw (hCN.out _ (by first | assumption | exact hHeld.1)) (fun _ => by kernel_rfl) (by kernel_rfl) (.tmp 32) rfl (by first | rfl | simp [Act.eval]) ?_
  rintro e w2 ⟨rfl, hs2⟩
  refine ⟨_, rfl, ?_⟩
  refine hKK.out _ _ ?_ (fun hHeld => ?_)
  focus (first | exact ⟨hbD, hK.out _ hbD⟩ | exact ⟨by assumption, hK.out _ (by assumption)⟩)
  clear hKK KK
  (try dsimp [Act.put]); (try simp only [List.setIfInBounds_toArray, List.set_cons_zero, List.set_cons_succ])
  refine wpAnyH_take (i := 10) (v := ?_) rfl (by kernel_rfl) (by kernel_rfl) (by kernel_rfl) (fun _ _ _ h => h) (Or.inl ⟨by kernel_rfl, ?_⟩) (by assumption) ?_; rotate_left; (focus ((intro w hSw; (try dsimp only at hSw); go_simp) <;> with_reducible rfl)); (try dsimp [Act.put]); (try simp only [List.setIfInBounds_toArray, List.set_cons_zero, List.set_cons_succ])
  refine wpAnyH_take (i := 11) (v := ?_) rfl (by kernel_rfl) (by kernel_rfl) (by kernel_rfl) (fun _ _ _ h => h) (Or.inl ⟨by kernel_rfl, ?_⟩) (by assumption) ?_; rotate_left; (focus ((intro w hSw; (try dsimp only at hSw); go_simp) <;> with_reducible rfl)); (try dsimp [Act.put]); (try simp only [List.setIfInBounds_toArray, List.set_cons_zero, List.set_cons_succ])
  refine wpAnyH_take (i := 12) (v := ?_) rfl (by kernel_rfl) (by kernel_rfl) (by kernel_rfl) (fun _ _ _ h => h) (Or.inl ⟨by kernel_rfl, ?_⟩) (by assumption) ?_; rotate_left; (focus ((intro w hSw; (try dsimp only at hSw); go_simp) <;> with_reducible rfl)); (try dsimp [Act.put]); (try simp only [List.setIfInBounds_toArray, List.set_cons_zero, List.set_cons_succ])
  refine wpAnyH_take (i := 13) (v := ?_) rfl (by kernel_rfl) (by kernel_rfl) (by kernel_rfl) (fun _ _ _ h => h) (Or.inl ⟨by kernel_rfl, ?_⟩) (by assumption) ?_; rotate_left; (focus ((intro w hSw; (try dsimp only at hSw); go_simp) <;> with_reducible rfl)); (try dsimp [Act.put]); (try simp only [List.setIfInBounds_toArray, List.set_cons_zero, List.set_cons_succ])
  refine wpAnyH_take (i := 14) (v := ?_) rfl (by kernel_rfl) (by kernel_rfl) (by kernel_rfl) (fun _ _ _ h => h) (Or.inl ⟨by kernel_rfl, ?_⟩) (by assumption) ?_; rotate_left; (focus ((intro w hSw; (try dsimp only at hSw); go_simp) <;> with_reducible rfl)); (try dsimp [Act.put]); (try simp only [List.setIfInBounds_toArray, List.set_cons_zero, List.set_cons_succ])
  refine wpAnyH_done (by kernel_rfl) ?_ _
  refine NoPanic.normal ?_
  have hR2 := hR1.out.below hs2
  have hb2 := hb1.out.trans (hs2.mono hb1.out.size)
  have hz2 := hs2.size
  have hv2 := hv.below hs2
  generalize hn : rdN (lat P 0).dropLast = n at *
  generalize hbe : rdB (lat P 0).dropLast = b0 at *
  replace hn := hid hn
  replace hbe := hid hbe
  have hS2 : 2 ≤ s.size := by omega
  clear hs2 hCN hK hbD hHeld hcutQ hTs hTl hT hQ hQl hQz hq hl0 hc0 hi0 hwq htoN hq1 hq2 hlt hR1 hb1 r0 r1 f0 f1 g50 g51 hbF
  have hR3 := hid (hR2.alloc (.cells #[.int .i64 n, .slice none 0 0] 40))
  have hX3 := hid (Bx.new w2 #[.int .i64 n, .slice none 0 0] 40)
  have hA3 := hid ((Below.refl w2.heap.size w2).alloc (Nat.le_refl _) (.cells #[.int .i64 n, .slice none 0 0] 40))
  have hz3 : (w2.alloc (.cells #[.int .i64 n, .slice none 0 0] 40)).heap.size = w2.heap.size + 1 := by simp
  clear hR2
  replace hb2 := hid hb2
  replace hv2 := hid hv2
  go_wp2_with fail
  generalize w2.alloc (.cells #[.int .i64 n, .slice none 0 0] 40) = w3 at *
  go_loopw [6, 8, 9] (fun ok i _ wr => ∃ (k : Nat) (b : Bool) (o : Value) (d : List Int), k + 1 ≤ P.length ∧ i = .int .i64 ((k : Int) + 1) ∧ ok = .bool b ∧ Hid (b = true → b0 = true ∧ (∀ j, j < k → rdB (lat P (j + 1)) = true) ∧ d = ((P.drop 1).take k).map rdN) ∧ Hid (b = false → b0 = false ∨ ∃ j, j + 1 < P.length ∧ rdB (lat P (j + 1)) = false) ∧ d.length ≤ k ∧ Bx wr w.heap.size [.int .i64 0, .slice none 0 0] ∧ Bx wr w2.heap.size [.int .i64 n, o] ∧ Own wr (w2.heap.size + 1) 2 o (ints d) ∧ Hid (Below w2.heap.size w2 wr)) (fun _ i _ _ => P.length - (intOf i).toNat)
  case atStart => exact ⟨0, b0, .slice none 0 0, [], by omega, by simp, rfl, hid (fun h => ⟨h, fun j hj => absurd hj (by omega), by simp⟩), hid (fun h => .inl h), by simp, hR3.out, hX3.out, Own.nilv _ _ _, hA3⟩
  case round =>
    clear hR3 hX3 hA3
    obtain ⟨k, b, o, d, hk, rfl, rfl, hyes, hnot, hdl, hR, hX, ho, hbr⟩ := hrel
    have hb4 := hb2.out.trans (hbr.out.mono hb2.out.size)
    have hzr := hid hbr.out.size
    have hv4 := hv2.out.below hbr.out
    have hP4 : P.length ≤ 41 := by omega
    cases b with
    | false =>
      have hno := hid (rb_no (s := s.data.toList) fun n' l' h ht => by
        obtain ⟨-, -, -, k1, -, k2⟩ := hkey2.out n' l' h ht
        rcases hnot.out rfl with e | ⟨j, hj, e⟩
        · rw [e] at k1; cases k1
        · rw [k2 j hj] at e; cases e)
      have r0 := hR.cell 0 rfl
      have r1 := hR.cell 1 rfl
      have f0 := hR.frozen 0
      have f1 := hR.frozen 1
      have g5 := (hR.set 0 (.int .i64 0)).set 1 (.slice none 0 0)
      have g50 := g5.cell 0 rfl
      have g51 := g5.cell 1 rfl
      have hbF := hid ((hb4.setCell (p := ⟨w.heap.size, 0, none⟩) (Nat.le_refl _) (.int .i64 0)).setCell (p := ⟨w.heap.size, 1, none⟩) (Nat.le_refl _) (.slice none 0 0))
      clear g5
      clear hX ho hb4 hv4
      by_cases hlt : (k : Int) + 1 < (P.length : Int)
      all_goals
        go_wp2_with fail
        refine bodyPost_ret (v := .tuple #[.agg #[.int .i64 0, .slice none 0 0], .bool false]) (by simp [g50, g51, results, Tryd.results35, go_sem]) rfl ⟨.slice none 0 0, by rw [hno.out.1, hno.out.2.2], by rw [hno.out.2.1]; exact Own.nilv _ _ _, hbF.out⟩
    | true =>
    obtain ⟨hb0t, hall, hd⟩ := hyes.out rfl
    replace hb0t := hid hb0t
    by_cases hlt : k + 1 < P.length
    case neg =>
      have hdd : d = (P.drop 1).map rdN := by rw [hd, List.take_of_length_le (by simp; omega)]
      clear hd
      replace hdd := hid hdd
      have hgk : ¬ (k : Int) + 1 < (P.length : Int) := by omega
      obtain ⟨oa, on, oc, rfl⟩ : ∃ a n c, o = Value.slice a n c := by obtain ⟨a, c, e⟩ := ho.form3'; exact ⟨a, _, c, e⟩
      have x0 := hX.cell 0 rfl
      have x1 := hX.cell 1 rfl
      replace ho := hid ho
      replace hb4 := hid hb4
      replace hall := hid hall
      clear hv4
      go_wp2_with fail
      refine (BraidTextS n (.slice oa on oc) d wr ho.out.reads).mono ?_
      rintro e w5 ⟨rfl, hs5⟩
      have hR5 := hR.below hs5
      have hX5 := hX.below hs5
      have ho5 := hid (ho.out.below hs5)
      have hb5 := hb4.out.trans (hs5.mono hb4.out.size)
      clear x0 x1 hR hX ho hb4 hs5
      have r0 := hR5.cell 0 rfl
      have r1 := hR5.cell 1 rfl
      have f0 := hR5.frozen 0
      have f1 := hR5.frozen 1
      have g5 := (hR5.set 0 (.int .i64 0)).set 1 (.slice none 0 0)
      have g50 := g5.cell 0 rfl
      have g51 := g5.cell 1 rfl
      have hbF := hid ((hb5.setCell (p := ⟨w.heap.size, 0, none⟩) (Nat.le_refl _) (.int .i64 0)).setCell (p := ⟨w.heap.size, 1, none⟩) (Nat.le_refl _) (.slice none 0 0))
      clear g5
      have x0 := hX5.cell 0 rfl
      have x1 := hX5.cell 1 rfl
      by_cases htx : btF n d = s.data.toList
      case neg =>
        have hno := hid (rb_no (s := s.data.toList) fun n' l' h ht => by
          obtain ⟨-, -, k0, -, k3, -⟩ := hkey2.out n' l' h ht
          apply htx
          have e1 : n = n' := k0
          have e2 : d = l' := by rw [hdd.out]; exact k3
          rw [e1, e2]
          unfold btF
          rw [if_pos h]; exact ht)
        have hne := str_ne (a := ⟨(btF n d).toArray⟩) (b := s) (fun h => htx (by rw [← h]))
        generalize (⟨(btF n d).toArray⟩ : ByteArray) = Z at *
        clear htx
        go_wp2_with fail
        refine bodyPost_ret (v := .tuple #[.agg #[.int .i64 0, .slice none 0 0], .bool false]) (by simp [g50, g51, results, Tryd.results35, go_sem]) rfl ⟨.slice none 0 0, by rw [hno.out.1, hno.out.2.2], by rw [hno.out.2.1]; exact Own.nilv _ _ _, hbF.out⟩
      case pos =>
        have hok : okB n d = true := by
          cases e : okB n d with
          | true => rfl
          | false =>
            unfold btF at htx
            rw [e] at htx
            have : s.data.toList.length = 0 := by rw [← htx]; rfl
            omega
        have htt : btTo n d d.length = s.data.toList := by unfold btF at htx; rw [if_pos hok] at htx; exact htx
        have hyy := hid (rb_yes hok htt)
        have hsv : (⟨(btF n d).toArray⟩ : ByteArray) = s := by rw [htx]
        rw [hsv]
        clear hsv htx hok htt g50 g51 hbF
        have g5 := (hR5.set 0 (.int .i64 n)).set 1 (.slice oa on oc)
        have g50 := g5.cell 0 rfl
        have g51 := g5.cell 1 rfl
        have hbF := hid ((hb5.setCell (p := ⟨w.heap.size, 0, none⟩) (Nat.le_refl _) (.int .i64 n)).setCell (p := ⟨w.heap.size, 1, none⟩) (Nat.le_refl _) (.slice oa on oc))
        have huF := hid (((ho5.out.set_block (g := w.heap.size) (by omega) 0 (.int .i64 n)).set_block (g := w.heap.size) (by omega) 1 (.slice oa on oc)).mono (B' := w.heap.size) (by omega))
        clear g5 hR5 hX5 hb5
        go_wp2_with fail
        refine bodyPost_ret (v := .tuple #[.agg #[.int .i64 n, .slice oa on oc], .bool true]) (by simp [g50, g51, results, Tryd.results35, go_sem]) rfl ⟨.slice oa on oc, by rw [hyy.out.1, hyy.out.2.2], by rw [hyy.out.2.1]; exact huF.out, hbF.out⟩
    case pos =>
      have hgk : (k : Int) + 1 < (P.length : Int) := by omega
      have hi := hv4.idx (P := Tryd.prog) 30 sliceW sizeW .i64 ((k : Int) + 1) (by omega) (by rw [length_ss]; omega)
      rw [show ((k : Int) + 1).toNat = k + 1 by omega] at hi
      have hc := hv4.cell (k + 1) _ (ss_at hlt)
      have hlk := hlb.out (k + 1) hlt
      have hC := hid (NumS ⟨(lat P (k + 1)).toArray⟩ wr (by rw [ba_size]; omega))
      have htk := hid (take_tail hlt)
      have hrng := hid ((rd_self (lat P (k + 1))).rng)
      generalize hp : lat P (k + 1) = p at *
      replace hp := hid hp
      replace hd := hid hd
      replace hall := hid hall
      replace hb4 := hid hb4
      have x0' := hX.cell 0 rfl
      clear x0' hv4
      go_wp2_with fail
      refine hC.out.mono ?_
      rintro e w5 ⟨rfl, hs5⟩
      have hR5 := hR.below hs5
      have hX5 := hX.below hs5
      have ho5 := ho.below hs5
      have hbr5 := hbr.out.trans (hs5.mono hbr.out.size)
      have hz5 := hs5.size
      have hzr' := hzr.out
      clear hR hX ho hs5 hC hb4 hc hi
      have x1 := hX5.cell 1 rfl
      have hxr := hrng.out
      have hXlt := hX5.lt
      generalize hxe : rdN p = x at *
      generalize hbb : rdB p = b1 at *
      replace hxe := hid hxe
      replace hbb := hid hbb
      obtain ⟨o', w6, hrun, ho6, hg6, -⟩ := app_oneF (ty := 35) (x := .int .i64 x) sliceI infoI rfl ho5 rfl (by omega) (by rw [length_ints]; omega) (by decide)
      obtain ⟨oa, on, oc, rfl⟩ : ∃ a n c, o' = Value.slice a n c := by obtain ⟨a, c, e⟩ := ho6.form3'; exact ⟨a, _, c, e⟩
      have hne : ∀ g, g < w2.heap.size + 1 → blk o ≠ some g := fun g hg => ho5.blk_ne hg
      have hX6 := hX5.grown hg6 (hne _ (by omega))
      have hR6 := hR5.grown hg6 (hne _ (by omega))
      have x61 := hX6.cell 1 rfl
      have f61 := hX6.frozen 1
      have hbr6 := hid ((hbr5.grown hg6 hbr5.size (fun j hj => by have := (ho5.blk_lt hj).1; omega)))
      have hX7 := hid (hX6.set 1 (.slice oa on oc))
      have hR7 := hid (hR6.other (a := ⟨w2.heap.size, 1, none⟩) (by show w2.heap.size ≠ w.heap.size; omega) (.slice oa on oc))
      have ho7 := hid (ho6.set_block (g := w2.heap.size) (by omega) 1 (.slice oa on oc))
      have hbr7 := hid (hbr6.out.setCell (p := ⟨w2.heap.size, 1, none⟩) (Nat.le_refl _) (.slice oa on oc))
      have hyes2 := hid (show b1 = true → b0 = true ∧ (∀ j, j < k + 1 → rdB (lat P (j + 1)) = true) ∧ d ++ [x] = ((P.drop 1).take (k + 1)).map rdN from fun h => ⟨hb0t.out, forall_snoc (p := fun j => rdB (lat P (j + 1)) = true) hall.out (by show rdB (lat P (k + 1)) = true; rw [hp.out, hbb.out]; exact h), by rw [htk.out, ← hd.out]⟩)
      have hnot2 := hid (show b1 = false → b0 = false ∨ ∃ j, j + 1 < P.length ∧ rdB (lat P (j + 1)) = false from fun h => .inr ⟨k, hlt, by rw [hp.out, hbb.out]; exact h⟩)
      clear hX5 hR5 ho5 hbr5 hg6 hX6 hR6 ho6 hne hbr6 hyes hnot
      go_wp2_with (at_builtin; refine wpList_app hrun rfl _ _ rfl rfl rfl ?_)
      go_roundw
      case rel => exact ⟨k + 1, b1, .slice oa on oc, d ++ [x], by omega, by go_num, rfl, hyes2, hnot2, by rw [List.length_append, List.length_singleton]; omega, hR7.out, hX7.out, by have := ho7.out; simpa [ints] using this, hbr7⟩
      case measure => simp [intOf] <;> omega


end Go.Proofs.YtkgdbobhppmaiaaDoor
