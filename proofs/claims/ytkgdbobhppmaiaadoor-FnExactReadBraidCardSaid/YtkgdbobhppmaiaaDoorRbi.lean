/- Texts of braids are read back: contracts of the program. -/
import Derived.Test.YtkgdbobhppmaiaaDoorRbp
import Derived.Test.YtkgdbobhppmaiaaDoorSpm
import Derived.Test.YtkgdbobhppmaiaaDoorLd4
namespace Go.Proofs.YtkgdbobhppmaiaaDoor
open Go.RowKit
open Go.Lib (itoa cut)

/-- whether all words are numbers, and the numbers -/
def rdsB (L : List (List UInt8)) : Bool := L.all rdB
def rdsL (L : List (List UInt8)) : List Int := if rdsB L = true then L.map rdN else []
theorem rds_at {L : List (List UInt8)} {k : Nat} (h : k < L.length) : rdB (lat L k) = true ∨ rdsB L = false := by
  cases e : rdB (lat L k) with
  | true => exact .inl rfl
  | false =>
    right
    cases e2 : rdsB L with
    | false => rfl
    | true =>
      unfold rdsB at e2
      rw [List.all_eq_true] at e2
      have e3 : lat L k = L[k] := by simp [lat, h]
      have := e2 L[k] (List.getElem_mem h)
      rw [← e3, e] at this; cases this
theorem rds_yes {L : List (List UInt8)} (h : ∀ k, k < L.length → rdB (lat L k) = true) : rdsB L = true := by
  unfold rdsB
  rw [List.all_eq_true]
  intro p hp
  obtain ⟨i, hi, rfl⟩ := List.getElem_of_mem hp
  have e3 : lat L i = L[i] := by simp [lat, hi]
  rw [← e3]; exact h i hi
theorem lat_take {L : List (List UInt8)} {k : Nat} (h : k < L.length) : (L.take (k + 1)).map rdN = (L.take k).map rdN ++ [rdN (lat L k)] := by
  have e3 : lat L k = L[k] := by simp [lat, h]
  rw [List.take_add_one, List.getElem?_eq_getElem h, e3, List.map_append]; rfl

set_option maxRecDepth 100000 in
set_option maxHeartbeats 4000000 in
theorem RdsI (v : Value) (L : List (List UInt8)) (w : World) (h : Reads w v (ss L)) (hL : L.length ≤ 1048577) (hz : ∀ k, k < L.length → (lat L k).length ≤ 1048576) (hT : Tb w) (hE : Er w) :
    Calls Tryd.prog 69 #[v] w fun e w' => ∃ u, e = .returned (.tuple #[u, .bool (rdsB L)]) ∧ Own w' w.heap.size 2 u (ints (rdsL L)) ∧ Below w.heap.size w w' := by
  have hlen := h.len (P := Tryd.prog) 30 3 ⟨_, sliceW⟩
  rw [length_ss] at hlen
  have hO := own_empty w 2 (B := w.heap.size) (Nat.le_refl _)
  have hA := (Below.refl w.heap.size w).alloc (Nat.le_refl _) (.cells #[] 2)
  replace hz := hid hz
  go_enter Tryd.func69, Tryd.ntmps69
  go_wp2_with fail
  generalize w.alloc (.cells #[] 2) = w1 at *
  generalize Value.slice (some ⟨w.heap.size, 0, none⟩) 0 0 = O at *
  replace hO := hid hO
  replace hA := hid hA
  go_loopw [4, 6, 7, 8, 12] (fun o _ _ _ i wr => ∃ k : Nat, k ≤ L.length ∧ i = .int .i64 k ∧ Hid (∀ j, j < k → rdB (lat L j) = true) ∧ Hid (Own wr w.heap.size 2 o (ints ((L.take k).map rdN))) ∧ Hid (Below w.heap.size w wr)) (fun _ _ _ _ i _ => L.length - (intOf i).toNat)
  case atStart => exact ⟨0, by omega, rfl, hid (fun j hj => absurd hj (by omega)), hid (by simpa [ints] using hO.out), hA⟩
  case round =>
    clear hO hA
    obtain ⟨k, hk, rfl, hok, ho, hb⟩ := hrel
    by_cases hlt : k < L.length
    · have hi := h.idx (P := Tryd.prog) 30 sliceW sizeW .i64 (k : Int) (by omega) (by rw [length_ss]; omega)
      simp only [Int.toNat_natCast] at hi
      have hc := (h.below hb.out).cell k _ (ss_at hlt)
      have hzk := hz.out k hlt
      have hT1 := hid (hT.below hb.out)
      have hE1 := hid (hE.below hb.out)
      have hC := hid (by have := ReadDecI ⟨(lat L k).toArray⟩ wr (by rw [ba_size]; exact hzk) hT1.out hE1.out; exact this)
      have hst := hid (lat_take hlt)
      have hat := rds_at hlt
      have hrng := hid ((rd_self (lat L k)).rng)
      generalize hp : lat L k = p at *
      replace hp := hid hp
      go_wp2_with fail
      refine hC.out.mono ?_
      rintro e w2 ⟨rfl, hs2⟩
      have hb2 := hid (hb.out.trans (hs2.mono hb.out.size))
      have ho2 := ho.out.below hs2
      have hyes := hid (forall_snoc (p := fun j => rdB (lat L j) = true) hok.out (k := k))
      clear hC hs2 hT1 hE1 hc
      cases hB : rdB p with
      | false =>
        have hno := hid (hat.resolve_left (by rw [hB]; decide))
        clear ho2 hat hB
        go_wp2_with fail
        go_ret2
        refine ⟨.slice none 0 0, by rw [hno.out]; rfl, ?_, hb2.out⟩
        have : rdsL L = [] := by unfold rdsL; rw [hno.out]; rfl
        rw [this]; exact Own.nilv _ _ _
      | true =>
        have hok2 := hid (hyes.out (by rw [hp.out]; exact hB))
        have hrg := hrng.out
        generalize rdN p = x at *
        clear hat hB
        have hdl : ((L.take k).map rdN).length ≤ 1048577 := by rw [List.length_map, List.length_take]; omega
        obtain ⟨v', w3, hrun, ho3, hb3⟩ := app_one (ty := 35) (x := .int .i64 x) sliceI infoI rfl ho2 rfl hb2.out.size (by rw [length_ints]; omega) (by decide) hb2.out (Nat.le_refl _)
        have ho4 := hid (show Own w3 w.heap.size 2 v' (ints ((L.take (k + 1)).map rdN)) by rw [hst.out]; simpa [ints] using ho3)
        replace hb3 := hid hb3
        clear ho2 ho3 hdl
        go_wp2_with (at_builtin; refine wpList_app hrun rfl _ _ rfl rfl rfl ?_)
        go_roundw
        case rel => exact ⟨k + 1, by omega, by go_num, hok2, ho4, hb3⟩
        case measure => simp [intOf] <;> omega
    · obtain rfl : k = L.length := by omega
      have hall := hid (rds_yes hok.out)
      have hres : rdsL L = (L.take L.length).map rdN := by unfold rdsL; rw [hall.out, List.take_of_length_le (Nat.le_refl _)]; rfl
      have ho2 := hid (show Own wr w.heap.size 2 u4 (ints (rdsL L)) by rw [hres]; exact ho.out)
      clear hres ho hok
      go_wp2_with fail
      go_ret2
      exact ⟨u4, by rw [hall.out]; rfl, ho2.out, hb.out⟩


theorem parts_bd (l : List UInt8) : ∀ p ∈ parts l, p.length ≤ l.length := by
  induction l with
  | nil => intro p hp; simp [parts] at hp; subst hp; simp
  | cons c r ih =>
    intro p hp
    unfold parts at hp
    split at hp
    · rcases List.mem_cons.1 hp with rfl | hp
      · simp
      · have := ih p hp; simp; omega
    · cases hr : parts r with
      | nil => exact absurd hr (parts_ne r)
      | cons q qs =>
        rw [hr] at hp ih
        rcases List.mem_cons.1 hp with rfl | hp
        · have := ih q (by simp); simp; omega
        · have := ih p (by simp [hp]); simp; omega
theorem words_bd (l : List UInt8) {k : Nat} (hk : k < (wordsOf l).length) : (lat (wordsOf l) k).length ≤ l.length := by
  have e3 : lat (wordsOf l) k = (wordsOf l)[k] := by simp [lat, hk]
  have hm : (wordsOf l)[k] ∈ wordsOf l := List.getElem_mem hk
  rw [e3]
  exact parts_bd l _ (List.mem_filter.1 hm).1
theorem cut_len (s u : List UInt8) : (cut s u).1.length ≤ s.length ∧ (cut s u).2.1.length ≤ s.length := by
  unfold cut
  split
  · exact ⟨by simp; omega, by simp⟩
  · exact ⟨Nat.le_refl _, by simp⟩
theorem wordsOf_len (l : List UInt8) : (wordsOf l).length ≤ l.length + 1 := Nat.le_trans (List.length_filter_le _ _) (parts_len l)
/-- what is read where the text is that of a valid braid -/
theorem rb_key {S H R : List UInt8} {B : Bool} (hC : cut S [58] = (H, R, B)) {n : Int} {l : List Int} (h : okB n l = true) (ht : btTo n l l.length = S) :
    B = true ∧ rdB H = true ∧ rdsB (wordsOf R) = true ∧ rdN H = n ∧ rdsL (wordsOf R) = l := by
  have h1 := cut_text n l
  rw [ht, hC] at h1
  injection h1 with hH h2
  injection h2 with hR hB
  obtain ⟨q0, q1, -, -⟩ := okB_of h
  have hr := rd_back (k := n) (by omega) (by omega)
  have hw := words_all l (ok_bd h)
  rw [hH, hR, words_btR]
  have hall : rdsB (l.map itoa) = true := by
    unfold rdsB
    rw [List.all_eq_true]
    exact hw.2
  exact ⟨hB, hr.2, hall, hr.1, by unfold rdsL; rw [if_pos hall]; exact hw.1⟩


set_option maxRecDepth 100000 in
set_option maxHeartbeats 8000000 in
theorem ReadBraidI (s : ByteArray) (w : World) (hs : s.size ≤ 1048576) (hT : Tb w) (hE : Er w) (hM : Mx w) :
    Calls Tryd.prog 36 #[.string s] w fun e w' => ∃ u, e = .returned (.tuple #[.agg #[.int .i64 (rbN s.data.toList), u], .bool (rbB s.data.toList)]) ∧ Own w' w.heap.size 2 u (ints (rbL s.data.toList)) ∧ Below w.heap.size w w' := by
  have hR0 := Bx.new w #[.int .i64 0, .slice none 0 0] 40
  have hb0 : Below w.heap.size w (w.alloc (.cells #[.int .i64 0, .slice none 0 0] 40)) := (Below.refl _ _).alloc (Nat.le_refl _) _
  have hz0 : (w.alloc (.cells #[.int .i64 0, .slice none 0 0] 40)).heap.size = w.heap.size + 1 := by simp
  obtain ⟨m, hm⟩ := hM.below hb0
  have hCut := hid (Tryd.strings_Cut s ⟨#[58]⟩ m (w.alloc (.cells #[.int .i64 0, .slice none 0 0] 40)) (by omega) hm)
  have hcl := cut_len s.data.toList [58]
  have hsl : s.data.toList.length = s.size := rfl
  clear hm
  go_enter Tryd.func36, Tryd.ntmps36
  go_wp2_with fail
  generalize w.alloc (.cells #[.int .i64 0, .slice none 0 0] 40) = w0 at *
  refine hCut.out.mono ?_
  rintro e w1' ⟨rfl, N, rfl⟩
  clear hCut
  have e58 : (⟨#[58]⟩ : ByteArray).data.toList = [58] := rfl
  obtain ⟨H, R, B, hC⟩ : ∃ H R B, cut s.data.toList [58] = (H, R, B) := ⟨_, _, _, rfl⟩
  rw [hC] at hcl
  have hHl : H.length ≤ s.size := hcl.1
  have hRl : R.length ≤ s.size := hcl.2
  first | rw [hC] | (rw [e58, hC]) | (simp only [e58, hC])
  clear e58 hcl
  replace hC := hid hC
  have hR1 := hR0.drewN N
  have hb1 := hid (below_drewN hb0 N)
  have hz1 : (w0.drewN N).heap.size = w.heap.size + 1 := hz0
  generalize w0.drewN N = w1 at *
  clear hR0 hb0 hz0
  have hT1 := hid (hT.below hb1.out)
  have hE1 := hid (hE.below hb1.out)
  replace hR1 := hid hR1
  go_wp2_with fail
  refine (ReadDecI ⟨H.toArray⟩ w1 (by rw [ba_size]; omega) hT1.out hE1.out).mono ?_
  rintro e w2 ⟨rfl, hs2⟩
  have hR2 := hid (hR1.out.below hs2)
  have hz2 := hs2.size
  have hb2 := hid (hb1.out.trans (hs2.mono hb1.out.size))
  clear hT1 hE1 hR1 hb1 hs2
  obtain ⟨m2, hm2⟩ := hM.below hb2.out
  replace hm2 := hid hm2
  go_wp2_with fail
  refine (SplitWordsI ⟨R.toArray⟩ m2 w2 hm2.out (by rw [ba_size]; omega)).mono ?_
  rintro e w3 ⟨v, rfl, hv, hs3⟩
  have hR3 := hid (hR2.out.below hs3)
  have hz3 := hs3.size
  have hb3 := hid (hb2.out.trans (hs3.mono hb2.out.size))
  have hv3 := hid hv.reads
  have hT3 := hid (hT.below hb3.out)
  have hE3 := hid (hE.below hb3.out)
  clear hR2 hb2 hs3 hv hm2
  have hwl := wordsOf_len R
  go_wp2_with fail
  refine (RdsI v (wordsOf R) w3 hv3.out (by omega) (fun k hk => by have := words_bd R hk; omega) hT3.out hE3.out).mono ?_
  rintro e w4 ⟨u, rfl, hu, hs4⟩
  have hR4 := (hR3.out.below hs4).alloc (.cells #[.int .i64 (rdN H), u] 40)
  have hz4 := hs4.size
  have hb4 := hb3.out.trans (hs4.mono hb3.out.size)
  have hb5 := hb4.alloc hb4.size (.cells #[.int .i64 (rdN H), u] 40)
  have hX4 := Bx.new w4 #[.int .i64 (rdN H), u] 40
  have hu4 := hid (own_alloc (hu.mono (B' := w.heap.size + 1) (by omega)) (.cells #[.int .i64 (rdN H), u] 40))
  obtain ⟨ua, un, uc, rfl⟩ : ∃ a n c, u = Value.slice a n c := by obtain ⟨a, c, e⟩ := hu.form3'; exact ⟨a, _, c, e⟩
  have hT4 := hid (hT.below hb5)
  clear hR3 hb3 hs4 hu hv3 hT3 hE3 hb4
  have r0 := hR4.cell 0 rfl
  have r1 := hR4.cell 1 rfl
  have f0 := hR4.frozen 0
  have f1 := hR4.frozen 1
  have g5 := (hR4.set 0 (.int .i64 0)).set 1 (.slice none 0 0)
  have g50 := g5.cell 0 rfl
  have g51 := g5.cell 1 rfl
  have hbF := hid ((hb5.setCell (p := ⟨w.heap.size, 0, none⟩) (Nat.le_refl _) (.int .i64 0)).setCell (p := ⟨w.heap.size, 1, none⟩) (Nat.le_refl _) (.slice none 0 0))
  clear g5
  have x0 := hX4.cell 0 rfl
  have x1 := hX4.cell 1 rfl
  replace hb5 := hid hb5
  replace hR4 := hid hR4
  replace hX4 := hid hX4
  cases B with
  | false =>
    have hno := hid (rb_no (s := s.data.toList) fun n l h ht => by have := (rb_key hC.out h ht).1; cases this)
    go_wp2_with fail
    refine bodyPost_ret (v := .tuple #[.agg #[.int .i64 0, .slice none 0 0], .bool false]) (by simp [g50, g51, results, Tryd.results36, go_sem]) rfl ⟨.slice none 0 0, by rw [hno.out.1, hno.out.2.2], by rw [hno.out.2.1]; exact Own.nilv _ _ _, hbF.out⟩
  | true =>
  cases e1 : rdB H with
  | false =>
    have hno := hid (rb_no (s := s.data.toList) fun n l h ht => by have := (rb_key hC.out h ht).2.1; rw [e1] at this; cases this)
    go_wp2_with fail
    refine bodyPost_ret (v := .tuple #[.agg #[.int .i64 0, .slice none 0 0], .bool false]) (by simp [g50, g51, results, Tryd.results36, go_sem]) rfl ⟨.slice none 0 0, by rw [hno.out.1, hno.out.2.2], by rw [hno.out.2.1]; exact Own.nilv _ _ _, hbF.out⟩
  | true =>
  cases e2 : rdsB (wordsOf R) with
  | false =>
    have hno := hid (rb_no (s := s.data.toList) fun n l h ht => by have := (rb_key hC.out h ht).2.2.1; rw [e2] at this; cases this)
    go_wp2_with fail
    refine bodyPost_ret (v := .tuple #[.agg #[.int .i64 0, .slice none 0 0], .bool false]) (by simp [g50, g51, results, Tryd.results36, go_sem]) rfl ⟨.slice none 0 0, by rw [hno.out.1, hno.out.2.2], by rw [hno.out.2.1]; exact Own.nilv _ _ _, hbF.out⟩
  | true =>
  have hkey := hid (fun (n : Int) (l : List Int) (h : okB n l = true) (ht : btTo n l l.length = s.data.toList) => (rb_key hC.out h ht).2.2.2)
  clear e1 e2 hC
  generalize rdN H = n at *
  generalize rdsL (wordsOf R) = l at *
  go_wp2_with fail
  generalize w4.alloc (.cells #[.int .i64 n, .slice ua un uc] 40) = w5 at *
  clear r0 r1 f0 f1 g50 g51 x0 x1 hbF
  refine (vb_impl n _ l _ hu4.out.reads).mono ?_
  rintro e w6 ⟨rfl, hs6⟩
  have hR6 := hR4.out.below hs6
  have hX6 := hX4.out.below hs6
  have hu6 := hid (hu4.out.below hs6)
  have hb6 := hb5.out.trans (hs6.mono hb5.out.size)
  clear hR4 hX4 hu4 hb5 hs6
  have r0 := hR6.cell 0 rfl
  have r1 := hR6.cell 1 rfl
  have f0 := hR6.frozen 0
  have f1 := hR6.frozen 1
  have g5 := (hR6.set 0 (.int .i64 0)).set 1 (.slice none 0 0)
  have g50 := g5.cell 0 rfl
  have g51 := g5.cell 1 rfl
  have hbF := hid ((hb6.setCell (p := ⟨w.heap.size, 0, none⟩) (Nat.le_refl _) (.int .i64 0)).setCell (p := ⟨w.heap.size, 1, none⟩) (Nat.le_refl _) (.slice none 0 0))
  clear g5
  have x0 := hX6.cell 0 rfl
  have x1 := hX6.cell 1 rfl
  cases e3 : okB n l with
  | false =>
    have hno := hid (rb_no (s := s.data.toList) fun n' l' h ht => by obtain ⟨h1, h2⟩ := hkey.out n' l' h ht; rw [h1, h2, h] at e3; cases e3)
    clear hX6 hR6
    go_wp2_with fail
    refine bodyPost_ret (v := .tuple #[.agg #[.int .i64 0, .slice none 0 0], .bool false]) (by simp [g50, g51, results, Tryd.results36, go_sem]) rfl ⟨.slice none 0 0, by rw [hno.out.1, hno.out.2.2], by rw [hno.out.2.1]; exact Own.nilv _ _ _, hbF.out⟩
  | true =>
  have hTx := hid (TxtI n (.slice ua un uc) l w6 hu6.out.reads e3 (hT.below hb6))
  replace hb6 := hid hb6
  clear r0 r1 f0 f1 g50 g51 hbF
  go_wp2_with fail
  refine hTx.out.mono ?_
  rintro e w7 ⟨rfl, hs7⟩
  have hR7 := hR6.below hs7
  have hX7 := hX6.below hs7
  have hu7 := hid (hu6.out.below hs7)
  have hb7 := hb6.out.trans (hs7.mono hb6.out.size)
  clear x0 x1 hR6 hX6 hu6 hb6 hs7 hTx
  have r0 := hR7.cell 0 rfl
  have r1 := hR7.cell 1 rfl
  have f0 := hR7.frozen 0
  have f1 := hR7.frozen 1
  have g5 := (hR7.set 0 (.int .i64 0)).set 1 (.slice none 0 0)
  have g50 := g5.cell 0 rfl
  have g51 := g5.cell 1 rfl
  have hbF := hid ((hb7.setCell (p := ⟨w.heap.size, 0, none⟩) (Nat.le_refl _) (.int .i64 0)).setCell (p := ⟨w.heap.size, 1, none⟩) (Nat.le_refl _) (.slice none 0 0))
  clear g5
  have x0 := hX7.cell 0 rfl
  have x1 := hX7.cell 1 rfl
  by_cases htx : btTo n l l.length = s.data.toList
  case neg =>
    have hno := hid (rb_no (s := s.data.toList) fun n' l' h ht => by obtain ⟨h1, h2⟩ := hkey.out n' l' h ht; rw [h1, h2] at htx; exact htx ht)
    have hne := str_ne (a := ⟨(btTo n l l.length).toArray⟩) (b := s) (fun h => htx (by rw [← h]))
    generalize (⟨(btTo n l l.length).toArray⟩ : ByteArray) = S at *
    clear htx e3
    go_wp2_with fail
    refine bodyPost_ret (v := .tuple #[.agg #[.int .i64 0, .slice none 0 0], .bool false]) (by simp [g50, g51, results, Tryd.results36, go_sem]) rfl ⟨.slice none 0 0, by rw [hno.out.1, hno.out.2.2], by rw [hno.out.2.1]; exact Own.nilv _ _ _, hbF.out⟩
  case pos =>
    have hyes := hid (rb_yes e3 htx)
    have hsv : (⟨(btTo n l l.length).toArray⟩ : ByteArray) = s := by rw [htx]
    rw [hsv]
    clear hsv htx e3 g50 g51 hbF
    have g5 := (hR7.set 0 (.int .i64 n)).set 1 (.slice ua un uc)
    have g50 := g5.cell 0 rfl
    have g51 := g5.cell 1 rfl
    have hbF := hid ((hb7.setCell (p := ⟨w.heap.size, 0, none⟩) (Nat.le_refl _) (.int .i64 n)).setCell (p := ⟨w.heap.size, 1, none⟩) (Nat.le_refl _) (.slice ua un uc))
    have huF := hid (((hu7.out.set_block (g := w.heap.size) (by omega) 0 (.int .i64 n)).set_block (g := w.heap.size) (by omega) 1 (.slice ua un uc)).mono (B' := w.heap.size) (by omega))
    clear g5 hR7 hX7 hb7
    go_wp2_with fail
    refine bodyPost_ret (v := .tuple #[.agg #[.int .i64 n, .slice ua un uc], .bool true]) (by simp [g50, g51, results, Tryd.results36, go_sem]) rfl ⟨.slice ua un uc, by rw [hyes.out.1, hyes.out.2.2], by rw [hyes.out.2.1]; exact huF.out, hbF.out⟩


end Go.Proofs.YtkgdbobhppmaiaaDoor
