/- The law of braids: its walk. -/
import Derived.Test.YtkgdbobhppmaiaaDoorRbp
import Derived.Test.YtkgdbobhppmaiaaDoorSpm
import Derived.Test.YtkgdbobhppmaiaaDoorLd4
import Derived.Test.YtkgdbobhppmaiaaDoorDel
import Derived.Test.YtkgdbobhppmaiaaDoorBpp
import Derived.Test.YtkgdbobhppmaiaaDoorSre
import Derived.Test.YtkgdbobhppmaiaaDoorCat
namespace Go.Proofs.YtkgdbobhppmaiaaDoor
open Go.RowKit
open Go.Lib (itoa cut)

/-- whether all words are numbers, and the numbers -/
def rdsB (L : List (List UInt8)) : Bool := L.all rdB
def rdsL (L : List (List UInt8)) : List Int := if rdsB L = true then L.map rdN else []
theorem rds_at {L : List (List UInt8)} {k : Nat} (h : k < L.length) : rdB (lat L k) = true ∨ rdsB L = false := by
  cases e : rdB (lat L k) with
  | true => exact .inl rfl
  | false =>
    right
    cases e2 : rdsB L with
    | false => rfl
    | true =>
      unfold rdsB at e2
      rw [List.all_eq_true] at e2
      have e3 : lat L k = L[k] := by simp [lat, h]
      have := e2 L[k] (List.getElem_mem h)
      rw [← e3, e] at this; cases this
theorem rds_yes {L : List (List UInt8)} (h : ∀ k, k < L.length → rdB (lat L k) = true) : rdsB L = true := by
  unfold rdsB
  rw [List.all_eq_true]
  intro p hp
  obtain ⟨i, hi, rfl⟩ := List.getElem_of_mem hp
  have e3 : lat L i = L[i] := by simp [lat, hi]
  rw [← e3]; exact h i hi
theorem lat_take {L : List (List UInt8)} {k : Nat} (h : k < L.length) : (L.take (k + 1)).map rdN = (L.take k).map rdN ++ [rdN (lat L k)] := by
  have e3 : lat L k = L[k] := by simp [lat, h]
  rw [List.take_add_one, List.getElem?_eq_getElem h, e3, List.map_append]; rfl

set_option maxRecDepth 100000 in
set_option maxHeartbeats 4000000 in
theorem RdsI (v : Value) (L : List (List UInt8)) (w : World) (h : Reads w v (ss L)) (hL : L.length ≤ 1048577) (hz : ∀ k, k < L.length → (lat L k).length ≤ 1048576) (hT : Tb w) (hE : Er w) :
    Calls Tryd.prog 69 #[v] w fun e w' => ∃ u, e = .returned (.tuple #[u, .bool (rdsB L)]) ∧ Own w' w.heap.size 2 u (ints (rdsL L)) ∧ Below w.heap.size w w' := by
  have hlen := h.len (P := Tryd.prog) 30 3 ⟨_, sliceW⟩
  rw [length_ss] at hlen
  have hO := own_empty w 2 (B := w.heap.size) (Nat.le_refl _)
  have hA := (Below.refl w.heap.size w).alloc (Nat.le_refl _) (.cells #[] 2)
  replace hz := hid hz
  go_enter Tryd.func69, Tryd.ntmps69
  go_wp2_with fail
  generalize w.alloc (.cells #[] 2) = w1 at *
  generalize Value.slice (some ⟨w.heap.size, 0, none⟩) 0 0 = O at *
  replace hO := hid hO
  replace hA := hid hA
  go_loopw [4, 6, 7, 8, 12] (fun o _ _ _ i wr => ∃ k : Nat, k ≤ L.length ∧ i = .int .i64 k ∧ Hid (∀ j, j < k → rdB (lat L j) = true) ∧ Hid (Own wr w.heap.size 2 o (ints ((L.take k).map rdN))) ∧ Hid (Below w.heap.size w wr)) (fun _ _ _ _ i _ => L.length - (intOf i).toNat)
  case atStart => exact ⟨0, by omega, rfl, hid (fun j hj => absurd hj (by omega)), hid (by simpa [ints] using hO.out), hA⟩
  case round =>
    clear hO hA
    obtain ⟨k, hk, rfl, hok, ho, hb⟩ := hrel
    by_cases hlt : k < L.length
    · have hi := h.idx (P := Tryd.prog) 30 sliceW sizeW .i64 (k : Int) (by omega) (by rw [length_ss]; omega)
      simp only [Int.toNat_natCast] at hi
      have hc := (h.below hb.out).cell k _ (ss_at hlt)
      have hzk := hz.out k hlt
      have hT1 := hid (hT.below hb.out)
      have hE1 := hid (hE.below hb.out)
      have hC := hid (by have := ReadDecI ⟨(lat L k).toArray⟩ wr (by rw [ba_size]; exact hzk) hT1.out hE1.out; exact this)
      have hst := hid (lat_take hlt)
      have hat := rds_at hlt
      have hrng := hid ((rd_self (lat L k)).rng)
      generalize hp : lat L k = p at *
      replace hp := hid hp
      go_wp2_with fail
      refine hC.out.mono ?_
      rintro e w2 ⟨rfl, hs2⟩
      have hb2 := hid (hb.out.trans (hs2.mono hb.out.size))
      have ho2 := ho.out.below hs2
      have hyes := hid (forall_snoc (p := fun j => rdB (lat L j) = true) hok.out (k := k))
      clear hC hs2 hT1 hE1 hc
      cases hB : rdB p with
      | false =>
        have hno := hid (hat.resolve_left (by rw [hB]; decide))
        clear ho2 hat hB
        go_wp2_with fail
        go_ret2
        refine ⟨.slice none 0 0, by rw [hno.out]; rfl, ?_, hb2.out⟩
        have : rdsL L = [] := by unfold rdsL; rw [hno.out]; rfl
        rw [this]; exact Own.nilv _ _ _
      | true =>
        have hok2 := hid (hyes.out (by rw [hp.out]; exact hB))
        have hrg := hrng.out
        generalize rdN p = x at *
        clear hat hB
        have hdl : ((L.take k).map rdN).length ≤ 1048577 := by rw [List.length_map, List.length_take]; omega
        obtain ⟨v', w3, hrun, ho3, hb3⟩ := app_one (ty := 35) (x := .int .i64 x) sliceI infoI rfl ho2 rfl hb2.out.size (by rw [length_ints]; omega) (by decide) hb2.out (Nat.le_refl _)
        have ho4 := hid (show Own w3 w.heap.size 2 v' (ints ((L.take (k + 1)).map rdN)) by rw [hst.out]; simpa [ints] using ho3)
        replace hb3 := hid hb3
        clear ho2 ho3 hdl
        go_wp2_with (at_builtin; refine wpList_app hrun rfl _ _ rfl rfl rfl ?_)
        go_roundw
        case rel => exact ⟨k + 1, by omega, by go_num, hok2, ho4, hb3⟩
        case measure => simp [intOf] <;> omega
    · obtain rfl : k = L.length := by omega
      have hall := hid (rds_yes hok.out)
      have hres : rdsL L = (L.take L.length).map rdN := by unfold rdsL; rw [hall.out, List.take_of_length_le (Nat.le_refl _)]; rfl
      have ho2 := hid (show Own wr w.heap.size 2 u4 (ints (rdsL L)) by rw [hres]; exact ho.out)
      clear hres ho hok
      go_wp2_with fail
      go_ret2
      exact ⟨u4, by rw [hall.out]; rfl, ho2.out, hb.out⟩


theorem parts_bd (l : List UInt8) : ∀ p ∈ parts l, p.length ≤ l.length := by
  induction l with
  | nil => intro p hp; simp [parts] at hp; subst hp; simp
  | cons c r ih =>
    intro p hp
    unfold parts at hp
    split at hp
    · rcases List.mem_cons.1 hp with rfl | hp
      · simp
      · have := ih p hp; simp; omega
    · cases hr : parts r with
      | nil => exact absurd hr (parts_ne r)
      | cons q qs =>
        rw [hr] at hp ih
        rcases List.mem_cons.1 hp with rfl | hp
        · have := ih q (by simp); simp; omega
        · have := ih p (by simp [hp]); simp; omega
theorem words_bd (l : List UInt8) {k : Nat} (hk : k < (wordsOf l).length) : (lat (wordsOf l) k).length ≤ l.length := by
  have e3 : lat (wordsOf l) k = (wordsOf l)[k] := by simp [lat, hk]
  have hm : (wordsOf l)[k] ∈ wordsOf l := List.getElem_mem hk
  rw [e3]
  exact parts_bd l _ (List.mem_filter.1 hm).1
theorem cut_len (s u : List UInt8) : (cut s u).1.length ≤ s.length ∧ (cut s u).2.1.length ≤ s.length := by
  unfold cut
  split
  · exact ⟨by simp; omega, by simp⟩
  · exact ⟨Nat.le_refl _, by simp⟩
theorem wordsOf_len (l : List UInt8) : (wordsOf l).length ≤ l.length + 1 := Nat.le_trans (List.length_filter_le _ _) (parts_len l)
/-- what is read where the text is that of a valid braid -/
theorem rb_key {S H R : List UInt8} {B : Bool} (hC : cut S [58] = (H, R, B)) {n : Int} {l : List Int} (h : okB n l = true) (ht : btTo n l l.length = S) :
    B = true ∧ rdB H = true ∧ rdsB (wordsOf R) = true ∧ rdN H = n ∧ rdsL (wordsOf R) = l := by
  have h1 := cut_text n l
  rw [ht, hC] at h1
  injection h1 with hH h2
  injection h2 with hR hB
  obtain ⟨q0, q1, -, -⟩ := okB_of h
  have hr := rd_back (k := n) (by omega) (by omega)
  have hw := words_all l (ok_bd h)
  rw [hH, hR, words_btR]
  have hall : rdsB (l.map itoa) = true := by
    unfold rdsB
    rw [List.all_eq_true]
    exact hw.2
  exact ⟨hB, hr.2, hall, hr.1, by unfold rdsL; rw [if_pos hall]; exact hw.1⟩


set_option maxRecDepth 100000 in
set_option maxHeartbeats 8000000 in
theorem ReadBraidI (s : ByteArray) (w : World) (hs : s.size ≤ 1048576) (hT : Tb w) (hE : Er w) (hM : Mx w) :
    Calls Tryd.prog 36 #[.string s] w fun e w' => ∃ u, e = .returned (.tuple #[.agg #[.int .i64 (rbN s.data.toList), u], .bool (rbB s.data.toList)]) ∧ Own w' w.heap.size 2 u (ints (rbL s.data.toList)) ∧ Below w.heap.size w w' := by
  have hR0 := Bx.new w #[.int .i64 0, .slice none 0 0] 40
  have hb0 : Below w.heap.size w (w.alloc (.cells #[.int .i64 0, .slice none 0 0] 40)) := (Below.refl _ _).alloc (Nat.le_refl _) _
  have hz0 : (w.alloc (.cells #[.int .i64 0, .slice none 0 0] 40)).heap.size = w.heap.size + 1 := by simp
  obtain ⟨m, hm⟩ := hM.below hb0
  have hCut := hid (Tryd.strings_Cut s ⟨#[58]⟩ m (w.alloc (.cells #[.int .i64 0, .slice none 0 0] 40)) (by omega) hm)
  have hcl := cut_len s.data.toList [58]
  have hsl : s.data.toList.length = s.size := rfl
  clear hm
  go_enter Tryd.func36, Tryd.ntmps36
  go_wp2_with fail
  generalize w.alloc (.cells #[.int .i64 0, .slice none 0 0] 40) = w0 at *
  refine hCut.out.mono ?_
  rintro e w1' ⟨rfl, N, rfl⟩
  clear hCut
  have e58 : (⟨#[58]⟩ : ByteArray).data.toList = [58] := rfl
  obtain ⟨H, R, B, hC⟩ : ∃ H R B, cut s.data.toList [58] = (H, R, B) := ⟨_, _, _, rfl⟩
  rw [hC] at hcl
  have hHl : H.length ≤ s.size := hcl.1
  have hRl : R.length ≤ s.size := hcl.2
  first | rw [hC] | (rw [e58, hC]) | (simp only [e58, hC])
  clear e58 hcl
  replace hC := hid hC
  have hR1 := hR0.drewN N
  have hb1 := hid (below_drewN hb0 N)
  have hz1 : (w0.drewN N).heap.size = w.heap.size + 1 := hz0
  generalize w0.drewN N = w1 at *
  clear hR0 hb0 hz0
  have hT1 := hid (hT.below hb1.out)
  have hE1 := hid (hE.below hb1.out)
  replace hR1 := hid hR1
  go_wp2_with fail
  refine (ReadDecI ⟨H.toArray⟩ w1 (by rw [ba_size]; omega) hT1.out hE1.out).mono ?_
  rintro e w2 ⟨rfl, hs2⟩
  have hR2 := hid (hR1.out.below hs2)
  have hz2 := hs2.size
  have hb2 := hid (hb1.out.trans (hs2.mono hb1.out.size))
  clear hT1 hE1 hR1 hb1 hs2
  obtain ⟨m2, hm2⟩ := hM.below hb2.out
  replace hm2 := hid hm2
  go_wp2_with fail
  refine (SplitWordsI ⟨R.toArray⟩ m2 w2 hm2.out (by rw [ba_size]; omega)).mono ?_
  rintro e w3 ⟨v, rfl, hv, hs3⟩
  have hR3 := hid (hR2.out.below hs3)
  have hz3 := hs3.size
  have hb3 := hid (hb2.out.trans (hs3.mono hb2.out.size))
  have hv3 := hid hv.reads
  have hT3 := hid (hT.below hb3.out)
  have hE3 := hid (hE.below hb3.out)
  clear hR2 hb2 hs3 hv hm2
  have hwl := wordsOf_len R
  go_wp2_with fail
  refine (RdsI v (wordsOf R) w3 hv3.out (by omega) (fun k hk => by have := words_bd R hk; omega) hT3.out hE3.out).mono ?_
  rintro e w4 ⟨u, rfl, hu, hs4⟩
  have hR4 := (hR3.out.below hs4).alloc (.cells #[.int .i64 (rdN H), u] 40)
  have hz4 := hs4.size
  have hb4 := hb3.out.trans (hs4.mono hb3.out.size)
  have hb5 := hb4.alloc hb4.size (.cells #[.int .i64 (rdN H), u] 40)
  have hX4 := Bx.new w4 #[.int .i64 (rdN H), u] 40
  have hu4 := hid (own_alloc (hu.mono (B' := w.heap.size + 1) (by omega)) (.cells #[.int .i64 (rdN H), u] 40))
  obtain ⟨ua, un, uc, rfl⟩ : ∃ a n c, u = Value.slice a n c := by obtain ⟨a, c, e⟩ := hu.form3'; exact ⟨a, _, c, e⟩
  have hT4 := hid (hT.below hb5)
  clear hR3 hb3 hs4 hu hv3 hT3 hE3 hb4
  have r0 := hR4.cell 0 rfl
  have r1 := hR4.cell 1 rfl
  have f0 := hR4.frozen 0
  have f1 := hR4.frozen 1
  have g5 := (hR4.set 0 (.int .i64 0)).set 1 (.slice none 0 0)
  have g50 := g5.cell 0 rfl
  have g51 := g5.cell 1 rfl
  have hbF := hid ((hb5.setCell (p := ⟨w.heap.size, 0, none⟩) (Nat.le_refl _) (.int .i64 0)).setCell (p := ⟨w.heap.size, 1, none⟩) (Nat.le_refl _) (.slice none 0 0))
  clear g5
  have x0 := hX4.cell 0 rfl
  have x1 := hX4.cell 1 rfl
  replace hb5 := hid hb5
  replace hR4 := hid hR4
  replace hX4 := hid hX4
  cases B with
  | false =>
    have hno := hid (rb_no (s := s.data.toList) fun n l h ht => by have := (rb_key hC.out h ht).1; cases this)
    go_wp2_with fail
    refine bodyPost_ret (v := .tuple #[.agg #[.int .i64 0, .slice none 0 0], .bool false]) (by simp [g50, g51, results, Tryd.results36, go_sem]) rfl ⟨.slice none 0 0, by rw [hno.out.1, hno.out.2.2], by rw [hno.out.2.1]; exact Own.nilv _ _ _, hbF.out⟩
  | true =>
  cases e1 : rdB H with
  | false =>
    have hno := hid (rb_no (s := s.data.toList) fun n l h ht => by have := (rb_key hC.out h ht).2.1; rw [e1] at this; cases this)
    go_wp2_with fail
    refine bodyPost_ret (v := .tuple #[.agg #[.int .i64 0, .slice none 0 0], .bool false]) (by simp [g50, g51, results, Tryd.results36, go_sem]) rfl ⟨.slice none 0 0, by rw [hno.out.1, hno.out.2.2], by rw [hno.out.2.1]; exact Own.nilv _ _ _, hbF.out⟩
  | true =>
  cases e2 : rdsB (wordsOf R) with
  | false =>
    have hno := hid (rb_no (s := s.data.toList) fun n l h ht => by have := (rb_key hC.out h ht).2.2.1; rw [e2] at this; cases this)
    go_wp2_with fail
    refine bodyPost_ret (v := .tuple #[.agg #[.int .i64 0, .slice none 0 0], .bool false]) (by simp [g50, g51, results, Tryd.results36, go_sem]) rfl ⟨.slice none 0 0, by rw [hno.out.1, hno.out.2.2], by rw [hno.out.2.1]; exact Own.nilv _ _ _, hbF.out⟩
  | true =>
  have hkey := hid (fun (n : Int) (l : List Int) (h : okB n l = true) (ht : btTo n l l.length = s.data.toList) => (rb_key hC.out h ht).2.2.2)
  clear e1 e2 hC
  generalize rdN H = n at *
  generalize rdsL (wordsOf R) = l at *
  go_wp2_with fail
  generalize w4.alloc (.cells #[.int .i64 n, .slice ua un uc] 40) = w5 at *
  clear r0 r1 f0 f1 g50 g51 x0 x1 hbF
  refine (vb_impl n _ l _ hu4.out.reads).mono ?_
  rintro e w6 ⟨rfl, hs6⟩
  have hR6 := hR4.out.below hs6
  have hX6 := hX4.out.below hs6
  have hu6 := hid (hu4.out.below hs6)
  have hb6 := hb5.out.trans (hs6.mono hb5.out.size)
  clear hR4 hX4 hu4 hb5 hs6
  have r0 := hR6.cell 0 rfl
  have r1 := hR6.cell 1 rfl
  have f0 := hR6.frozen 0
  have f1 := hR6.frozen 1
  have g5 := (hR6.set 0 (.int .i64 0)).set 1 (.slice none 0 0)
  have g50 := g5.cell 0 rfl
  have g51 := g5.cell 1 rfl
  have hbF := hid ((hb6.setCell (p := ⟨w.heap.size, 0, none⟩) (Nat.le_refl _) (.int .i64 0)).setCell (p := ⟨w.heap.size, 1, none⟩) (Nat.le_refl _) (.slice none 0 0))
  clear g5
  have x0 := hX6.cell 0 rfl
  have x1 := hX6.cell 1 rfl
  cases e3 : okB n l with
  | false =>
    have hno := hid (rb_no (s := s.data.toList) fun n' l' h ht => by obtain ⟨h1, h2⟩ := hkey.out n' l' h ht; rw [h1, h2, h] at e3; cases e3)
    clear hX6 hR6
    go_wp2_with fail
    refine bodyPost_ret (v := .tuple #[.agg #[.int .i64 0, .slice none 0 0], .bool false]) (by simp [g50, g51, results, Tryd.results36, go_sem]) rfl ⟨.slice none 0 0, by rw [hno.out.1, hno.out.2.2], by rw [hno.out.2.1]; exact Own.nilv _ _ _, hbF.out⟩
  | true =>
  have hTx := hid (TxtI n (.slice ua un uc) l w6 hu6.out.reads e3 (hT.below hb6))
  replace hb6 := hid hb6
  clear r0 r1 f0 f1 g50 g51 hbF
  go_wp2_with fail
  refine hTx.out.mono ?_
  rintro e w7 ⟨rfl, hs7⟩
  have hR7 := hR6.below hs7
  have hX7 := hX6.below hs7
  have hu7 := hid (hu6.out.below hs7)
  have hb7 := hb6.out.trans (hs7.mono hb6.out.size)
  clear x0 x1 hR6 hX6 hu6 hb6 hs7 hTx
  have r0 := hR7.cell 0 rfl
  have r1 := hR7.cell 1 rfl
  have f0 := hR7.frozen 0
  have f1 := hR7.frozen 1
  have g5 := (hR7.set 0 (.int .i64 0)).set 1 (.slice none 0 0)
  have g50 := g5.cell 0 rfl
  have g51 := g5.cell 1 rfl
  have hbF := hid ((hb7.setCell (p := ⟨w.heap.size, 0, none⟩) (Nat.le_refl _) (.int .i64 0)).setCell (p := ⟨w.heap.size, 1, none⟩) (Nat.le_refl _) (.slice none 0 0))
  clear g5
  have x0 := hX7.cell 0 rfl
  have x1 := hX7.cell 1 rfl
  by_cases htx : btTo n l l.length = s.data.toList
  case neg =>
    have hno := hid (rb_no (s := s.data.toList) fun n' l' h ht => by obtain ⟨h1, h2⟩ := hkey.out n' l' h ht; rw [h1, h2] at htx; exact htx ht)
    have hne := str_ne (a := ⟨(btTo n l l.length).toArray⟩) (b := s) (fun h => htx (by rw [← h]))
    generalize (⟨(btTo n l l.length).toArray⟩ : ByteArray) = S at *
    clear htx e3
    go_wp2_with fail
    refine bodyPost_ret (v := .tuple #[.agg #[.int .i64 0, .slice none 0 0], .bool false]) (by simp [g50, g51, results, Tryd.results36, go_sem]) rfl ⟨.slice none 0 0, by rw [hno.out.1, hno.out.2.2], by rw [hno.out.2.1]; exact Own.nilv _ _ _, hbF.out⟩
  case pos =>
    have hyes := hid (rb_yes e3 htx)
    have hsv : (⟨(btTo n l l.length).toArray⟩ : ByteArray) = s := by rw [htx]
    rw [hsv]
    clear hsv htx e3 g50 g51 hbF
    have g5 := (hR7.set 0 (.int .i64 n)).set 1 (.slice ua un uc)
    have g50 := g5.cell 0 rfl
    have g51 := g5.cell 1 rfl
    have hbF := hid ((hb7.setCell (p := ⟨w.heap.size, 0, none⟩) (Nat.le_refl _) (.int .i64 n)).setCell (p := ⟨w.heap.size, 1, none⟩) (Nat.le_refl _) (.slice ua un uc))
    have huF := hid (((hu7.out.set_block (g := w.heap.size) (by omega) 0 (.int .i64 n)).set_block (g := w.heap.size) (by omega) 1 (.slice ua un uc)).mono (B' := w.heap.size) (by omega))
    clear g5 hR7 hX7 hb7
    go_wp2_with fail
    refine bodyPost_ret (v := .tuple #[.agg #[.int .i64 n, .slice ua un uc], .bool true]) (by simp [g50, g51, results, Tryd.results36, go_sem]) rfl ⟨.slice ua un uc, by rw [hyes.out.1, hyes.out.2.2], by rw [hyes.out.2.1]; exact huF.out, hbF.out⟩


end Go.Proofs.YtkgdbobhppmaiaaDoor

namespace Go.Proofs.YtkgdbobhppmaiaaDoor
open Go.RowKit

theorem below_alloc_self {a w : World} (h : Below a.heap.size a w) (o : Obj) : Below a.heap.size a (w.alloc o) := h.alloc h.size o
theorem below_set2 {B g : Nat} {a w : World} (h : Below B a w) (hg : B ≤ g) (x y : Value) : Below B a ((w.setCell ⟨g, 0, none⟩ x).setCell ⟨g, 1, none⟩ y) := (h.setCell (p := ⟨g, 0, none⟩) hg x).setCell (p := ⟨g, 1, none⟩) hg y
theorem calls_from {P : Program} {f : FuncId} {args : Array Value} {a w : World} {v : Value} (hc : Calls P f args w fun e w' => e = .returned v ∧ Below w.heap.size w w') (h : Below a.heap.size a w) : Calls P f args w fun e w' => e = .returned v ∧ Below a.heap.size a w' :=
  hc.mono fun _ _ hh => ⟨hh.1, h.trans (hh.2.mono h.size)⟩
/-- a call of a Go function with two arguments, as one step of a region that draws -/
theorem step_call2 {P : Program} {w : World} {ops : Array Oper} {o : Oper} {a : Act} {K : Act → World → Prop} {Q : Exit → Act → World → Prop} {E : Prop} {f : FuncId} {u1 u2 : Value} {T1 T2 : TypeId} {R : Ending → World → Prop}
    (hc : Calls P f #[u1, u2] w R) (hf : ∀ w, (callFunc f #[u1, u2]).run P w = .ok (.enter f #[u1, u2]) w) (hg : o.guard = none) (x y : Operand)
    (ho : o.op = .call { callee := .value (.func f), args := #[x, y], argTypes := #[T1, T2] }) (hx : a.eval x = u1) (hy : a.eval y = u2)
    (hK : ∀ e w', R e w' → ∃ v, e = .returned v ∧ K (a.put o.dst v) w') : if Region.wanted o (yielded ops a.tmps) = true then Oper.wp P o a w K Q else E := by
  have hw : Region.wanted o (yielded ops a.tmps) = true := by simp [Region.wanted, hg]
  rw [if_pos hw]
  unfold Oper.wp
  have hr : (execOp a.eval o).run P w = .ok (.enter f #[u1, u2]) w := by
    have hx' : Act.eval a x = u1 := hx
    have hy' : Act.eval a y = u2 := hy
    have h0 : a.eval (.func f) = .func (.func f) #[] #[] := rfl
    simp [execOp, ho, resolve, invoke, hx', hy', h0, Deferred.ofValue, hf]
  rw [hr]
  refine hc.mono ?_
  intro e w' hr
  obtain ⟨v, rfl, hk⟩ := hK e w' hr
  exact hk

end Go.Proofs.YtkgdbobhppmaiaaDoor

namespace Go.Proofs.YtkgdbobhppmaiaaDoor
open Go.RowKit

/-- a call with one argument, wanted -/
theorem step_callw {P : Program} {w : World} {ops : Array Oper} {o : Oper} {a : Act} {K : Act → World → Prop} {Q : Exit → Act → World → Prop} {E : Prop} {f : FuncId} {u : Value} {T : TypeId} {R : Ending → World → Prop}
    (hc : Calls P f #[u] w R) (hf : ∀ w, (callFunc f #[u]).run P w = .ok (.enter f #[u]) w) (hw : Region.wanted o (yielded ops a.tmps) = true) (x : Operand)
    (ho : o.op = .call { callee := .value (.func f), args := #[x], argTypes := #[T] }) (hx : a.eval x = u)
    (hK : ∀ e w', R e w' → ∃ v, e = .returned v ∧ K (a.put o.dst v) w') : if Region.wanted o (yielded ops a.tmps) = true then Oper.wp P o a w K Q else E := by
  rw [if_pos hw]
  unfold Oper.wp
  have hr : (execOp a.eval o).run P w = .ok (.enter f #[u]) w := by
    have hx' : Act.eval a x = u := hx
    have h0 : a.eval (.func f) = .func (.func f) #[] #[] := rfl
    simp [execOp, ho, resolve, invoke, hx', h0, Deferred.ofValue, hf]
  rw [hr]
  refine hc.mono ?_
  intro e w' hr
  obtain ⟨v, rfl, hk⟩ := hK e w' hr
  exact hk

/-- a call with two arguments, wanted -/
theorem step_callw2 {P : Program} {w : World} {ops : Array Oper} {o : Oper} {a : Act} {K : Act → World → Prop} {Q : Exit → Act → World → Prop} {E : Prop} {f : FuncId} {u1 u2 : Value} {T1 T2 : TypeId} {R : Ending → World → Prop}
    (hc : Calls P f #[u1, u2] w R) (hf : ∀ w, (callFunc f #[u1, u2]).run P w = .ok (.enter f #[u1, u2]) w) (hw : Region.wanted o (yielded ops a.tmps) = true) (x y : Operand)
    (ho : o.op = .call { callee := .value (.func f), args := #[x, y], argTypes := #[T1, T2] }) (hx : a.eval x = u1) (hy : a.eval y = u2)
    (hK : ∀ e w', R e w' → ∃ v, e = .returned v ∧ K (a.put o.dst v) w') : if Region.wanted o (yielded ops a.tmps) = true then Oper.wp P o a w K Q else E := by
  rw [if_pos hw]
  unfold Oper.wp
  have hr : (execOp a.eval o).run P w = .ok (.enter f #[u1, u2]) w := by
    have hx' : Act.eval a x = u1 := hx
    have hy' : Act.eval a y = u2 := hy
    have h0 : a.eval (.func f) = .func (.func f) #[] #[] := rfl
    simp [execOp, ho, resolve, invoke, hx', hy', h0, Deferred.ofValue, hf]
  rw [hr]
  refine hc.mono ?_
  intro e w' hr
  obtain ⟨v, rfl, hk⟩ := hK e w' hr
  exact hk

end Go.Proofs.YtkgdbobhppmaiaaDoor

namespace Go.Proofs.YtkgdbobhppmaiaaDoor
open Go.RowKit
set_option linter.unusedSimpArgs false

theorem Reads.alloc {w : World} {v : Value} {xs : List Value} (h : Reads w v xs) (o : Obj) : Reads (w.alloc o) v xs := h.below ((Below.refl _ _).alloc (Nat.le_refl _) o)
theorem letters_mkB {n : Int} {l : List Int} (m : Nat) (h : ∀ k, k < m → nth l k ≠ 0 ∧ 1 - n ≤ nth l k ∧ nth l k ≤ n - 1) : lettersTo n l m = true := by
  rw [lettersTo, List.all_eq_true]
  intro k hk
  have := h k (by simpa using hk)
  simp only [letterB, inB, Bool.and_eq_true, Bool.not_eq_true', beq_eq_false_iff_ne, decide_eq_true_eq]
  exact ⟨this.1, this.2.1, this.2.2⟩
/-- letters on n strands -/
def Lts (n : Nat) (l : List Int) : Prop := ∀ x ∈ l, x ≠ 0 ∧ 1 - (n : Int) ≤ x ∧ x ≤ n - 1
theorem Lts.ok {n : Nat} {l : List Int} (h : Lts n l) (hn : n ≤ 12) (hl : l.length ≤ 40) : okB (n : Int) l = true := by
  unfold okB
  rw [show inB (n : Int) 0 12 = true by simp [inB]; omega, decide_eq_true hl, letters_mkB l.length fun k hk => h _ (nth_in hk)]; rfl
theorem Wrd.lts {n k : Nat} {l : List Int} (h : Wrd n k l) : Lts n l := by
  intro x hx
  obtain ⟨i, hi, rfl⟩ := List.getElem_of_mem hx
  have := h.2 i hi
  have e : nth l i = l[i] := by simp [nth, hi]
  rwa [e] at this
theorem Lts.app {n : Nat} {l m : List Int} (h : Lts n l) (k : Lts n m) : Lts n (l ++ m) := fun x hx => by
  rcases List.mem_append.1 hx with hx | hx
  · exact h x hx
  · exact k x hx
theorem Lts.inv {n : Nat} {l : List Int} (h : Lts n l) : Lts n (invW l) := fun x hx => by
  unfold invW at hx
  rw [List.mem_map] at hx
  obtain ⟨y, hy, rfl⟩ := hx
  have := h y (by simpa using hy)
  omega
theorem Lts.red {n : Nat} {l : List Int} (h : Lts n l) : Lts n (redW l) := fun x hx => h x (redW_mem hx)
theorem Lts.mir {n : Nat} {l : List Int} (h : Lts n l) : Lts n (l.map (mirL n)) := fun x hx => by
  rw [List.mem_map] at hx
  obtain ⟨y, hy, rfl⟩ := hx
  have := h y hy
  exact mir_rng this.1 this.2.1 this.2.2
theorem mir_all {n : Nat} {l : List Int} (h : Lts n l) : (l.map (mirL n)).map (mirL n) = l := by
  rw [List.map_map]
  refine (List.map_congr_left fun x hx => ?_).trans (List.map_id _)
  have := h x hx
  exact mir_mir this.1 this.2.1 this.2.2
theorem alloc_store2 (w : World) (a b c d : Value) (t : TypeId) : ((w.alloc (.cells #[a, b] t)).setCell ⟨w.heap.size, 0, none⟩ c).setCell ⟨w.heap.size, 1, none⟩ d = w.alloc (.cells #[c, d] t) := by
  simp only [World.setCell, World.alloc]
  congr 1
  apply Array.ext_getElem?
  intro i
  rw [Array.getElem?_modify, Array.getElem?_modify]
  by_cases h : w.heap.size = i
  · subst h
    simp
  · have h' : ¬ i = w.heap.size := fun e => h e.symm
    simp [h, h', Array.getElem?_push]
theorem below_drewS {a w : World} (h : Below a.heap.size a w) : Below a.heap.size a w.drew := h.drew

theorem inv9 {n : Nat} {l : List Int} (h : okB (n : Int) l = true) (v : Value) (w : World) (hr : Reads w v (ints l)) :
    Calls Tryd.prog 41 #[.agg #[.int .i64 n, v]] w fun e w' => ∃ u, e = Ending.returned (.agg #[.int .i64 n, u]) ∧ Own w' w.heap.size 2 u (ints (invW l)) ∧ Below w.heap.size w w' := by
  refine (vinv_impl n v l w hr).mono ?_
  rintro e w' ⟨u, rfl, ho, hb⟩
  have e1 : okN (n : Int) l = n := by unfold okN; rw [if_pos h]
  have e2 : okL (n : Int) l (invW l) = invW l := by unfold okL; rw [if_pos h]
  rw [e2] at ho
  exact ⟨u, by rw [e1], ho, hb⟩
theorem red9 {n : Nat} {l : List Int} (h : okB (n : Int) l = true) (v : Value) (w : World) (hr : Reads w v (ints l)) :
    Calls Tryd.prog 42 #[.agg #[.int .i64 n, v]] w fun e w' => ∃ u, e = Ending.returned (.agg #[.int .i64 n, u]) ∧ Reads w' u (ints (redW l)) ∧ Below w.heap.size w w' := by
  refine (vred_impl n v l w hr).mono ?_
  rintro e w' ⟨u, rfl, ho, hb⟩
  have e1 : okN (n : Int) l = n := by unfold okN; rw [if_pos h]
  have e2 : okL (n : Int) l (redW l) = redW l := by unfold okL; rw [if_pos h]
  rw [e2] at ho
  exact ⟨u, by rw [e1], ho.reads, hb⟩
theorem red0 {n : Nat} {l : List Int} (h : okB (n : Int) l = true) (h0 : redW l = []) (v : Value) (w : World) (hr : Reads w v (ints l)) :
    Calls Tryd.prog 42 #[.agg #[.int .i64 n, v]] w fun e w' => ∃ a c, e = Ending.returned (.agg #[.int .i64 n, .slice a 0 c]) ∧ Below w.heap.size w w' := by
  refine (red9 h v w hr).mono ?_
  rintro e w' ⟨u, rfl, ho, hb⟩
  rw [h0] at ho
  obtain ⟨a, c, rfl, -⟩ := ho.form
  exact ⟨a, c, rfl, hb⟩
theorem mir9 {n : Nat} {l : List Int} (h : okB (n : Int) l = true) (v : Value) (w : World) (hr : Reads w v (ints l)) :
    Calls Tryd.prog 46 #[.agg #[.int .i64 n, v]] w fun e w' => ∃ u, e = Ending.returned (.agg #[.int .i64 n, u]) ∧ Reads w' u (ints (l.map (mirL n))) ∧ Below w.heap.size w w' := by
  refine (vmir_impl n v l w hr).mono ?_
  rintro e w' ⟨u, rfl, ho, hb⟩
  have e1 : okN (n : Int) l = n := by unfold okN; rw [if_pos h]
  have e2 : okL (n : Int) l (l.map (mirL n)) = l.map (mirL n) := by unfold okL; rw [if_pos h]
  rw [e2] at ho
  exact ⟨u, by rw [e1], ho.reads, hb⟩
theorem jn9 {n : Nat} {l m : List Int} (h : okB (n : Int) l = true) (h' : okB (n : Int) m = true) (hl : l.length + m.length ≤ 40) (v u : Value) (w : World) (hr : Reads w v (ints l)) (hr' : Reads w u (ints m)) :
    Calls Tryd.prog 40 #[.agg #[.int .i64 n, v], .agg #[.int .i64 n, u]] w fun e w' => ∃ x, e = .returned (.tuple #[.agg #[.int .i64 n, x], .int .i64 0]) ∧ Own w' w.heap.size 2 x (ints (l ++ m)) ∧ Below w.heap.size w w' := by
  have hc : codeJ n l n m = 0 := by unfold codeJ; rw [h, h', if_pos (show (true && true) = true from rfl), if_pos rfl, if_pos (by omega)]
  refine (vjoin_impl n v l n u m w hr hr').mono ?_
  rintro e w' ⟨x, rfl, ho, hb⟩
  have e1 : nJ (n : Int) l n m = n := by unfold nJ; rw [if_pos hc]
  have e2 : lJ (n : Int) l n m = l ++ m := by unfold lJ; rw [if_pos hc]
  rw [e2] at ho
  exact ⟨x, by rw [e1, hc], ho, hb⟩
theorem bp9 {n : Nat} {l : List Int} (v : Value) (w : World) (hr : Reads w v (ints l)) :
    Calls Tryd.prog 44 #[.agg #[.int .i64 n, v]] w fun e w' => ∃ u, e = .returned u ∧ Reads w' u (ints (permB n l)) ∧ Below w.heap.size w w' := by
  refine (bp_impl n v l w hr).mono ?_
  rintro e w' ⟨u, rfl, ho, hb⟩
  exact ⟨u, rfl, ho.reads, hb⟩
theorem permB_len {n : Nat} {l : List Int} (h : okB (n : Int) l = true) : (permB n l).length = n := by unfold permB; rw [if_pos h]; simp
theorem sb9 {n : Nat} {l : List Int} (v u : Value) (w : World) (hr : Reads w v (ints l)) (hr' : Reads w u (ints l)) :
    Calls Tryd.prog 45 #[.agg #[.int .i64 n, v], .agg #[.int .i64 n, u]] w fun e w' => e = .returned (.bool true) ∧ Below w.heap.size w w' := by
  have := sb_spec n n v u l l w hr hr'
  rwa [show ((n : Int) == n && decide (l = l)) = true by simp] at this
theorem calls_fromB {P : Program} {f : FuncId} {args : Array Value} {a w : World} {v : Value} (hc : Calls P f args w fun e w' => e = .returned v ∧ Below w.heap.size w w') (h : Below a.heap.size a w) : Calls P f args w fun e w' => e = .returned v ∧ Below a.heap.size a w' :=
  hc.mono fun _ _ hh => ⟨hh.1, h.trans (hh.2.mono h.size)⟩
theorem exp_app {n : Nat} {l m : List Int} (h1 : okB (n : Int) l = true) (h2 : okB (n : Int) m = true) (h3 : okB (n : Int) (l ++ m) = true) : expF n (l ++ m) = expF n l + expF n m := by
  unfold expF
  rw [h1, h2, h3, if_pos rfl, if_pos rfl, if_pos rfl, List.length_append, expTo_app]
theorem exp_bd {n : Nat} {l : List Int} (hl : l.length ≤ 40) : -40 ≤ expF n l ∧ expF n l ≤ 40 := by
  unfold expF
  split
  · have := expTo_size l l.length; omega
  · omega
/-- the text of a valid braid is read back -/
theorem read9 {n : Nat} {l : List Int} (h : okB (n : Int) l = true) (w : World) (hT : Tb w) (hE : Er w) (hM : Mx w) :
    Calls Tryd.prog 36 #[.string ⟨(btF n l).toArray⟩] w fun e w' => ∃ u, e = .returned (.tuple #[.agg #[.int .i64 n, u], .bool true]) ∧ Reads w' u (ints l) ∧ Below w.heap.size w w' := by
  have e1 : btF n l = btTo n l l.length := by unfold btF; rw [if_pos h]
  have hy := rb_yes (s := btF n l) h e1.symm
  obtain ⟨q0, q1, q2, q3⟩ := okB_of h
  have hsz : (⟨(btF n l).toArray⟩ : ByteArray).size ≤ 1048576 := by
    rw [ba_size, e1]
    have := btTo_len (n := n) (l := l) q0 q1 (fun k hk => by have := q3 k hk; omega) (Nat.le_refl l.length)
    omega
  have := ReadBraidI ⟨(btF n l).toArray⟩ w hsz hT hE hM
  have e2 : (⟨(btF n l).toArray⟩ : ByteArray).data.toList = btF n l := rfl
  rw [e2, hy.1, hy.2.1, hy.2.2] at this
  exact this.mono fun e w' ⟨u, h1, h2, h3⟩ => ⟨u, h1, h2.reads, h3⟩


set_option maxRecDepth 100000 in
set_option maxHeartbeats 16000000 in
theorem walk_FnBraids (a0 : Value) (cs : List Int) (W : World) (h0 : Reads W a0 (bytes cs)) (hr : ∀ i, i < cs.length → 0 ≤ nth cs i ∧ nth cs i ≤ 255) (hT : Tb W) (hE : Er W) (hM : Mx W) :
    Calls Tryd.prog 11 #[a0] W fun e w' => e = .returned (.bool true) ∧ Below W.heap.size W w' := by
  have hlen := h0.len (P := Tryd.prog) 46 3 ⟨_, sliceY⟩
  rw [length_bytes] at hlen
  have hb : Below W.heap.size W W := Below.refl _ _
  replace hT := hid hT
  replace hE := hid hE
  replace hM := hid hM
  go_enter Tryd.func11, Tryd.ntmps11
  by_cases hl : (1048576 : Int) < cs.length
  · go_wp2_with fail
    go_ret
    exact ⟨rfl, hb⟩
  go_wp2_with fail
  clear hlen
  refine (e8braids a0 cs W h0 hr (by omega)).mono ?_
  rintro e w1 ⟨n, u, v, l, m, rfl, hn, hu, hv, hWl, hWm, hs⟩
  replace hb := hb.trans (hs.mono hb.size)
  clear hs
  clear h0 hr
  replace hu := hu.reads
  replace hv := hv.reads
  obtain ⟨ua, ue, rfl⟩ : ∃ a c, u = Value.slice a l.length c := by obtain ⟨a, c, e, -⟩ := hu.form; rw [length_ints] at e; exact ⟨a, c, e⟩
  obtain ⟨va, ve, rfl⟩ : ∃ a c, v = Value.slice a m.length c := by obtain ⟨a, c, e, -⟩ := hv.form; rw [length_ints] at e; exact ⟨a, c, e⟩
  have hll := hWl.1
  have hlm := hWm.1
  have oL := hid hWl.lts
  have oM := hid hWm.lts
  clear hWl hWm
  have okl := hid (oL.out.ok (by omega) (by omega))
  have okm := hid (oM.out.ok (by omega) (by omega))
  have oki := hid ((oL.out.inv).ok (by omega) (by rw [length_invW]; omega))
  have okx := hid ((oL.out.app oL.out.inv).ok (by omega) (by rw [List.length_append, length_invW]; omega))
  have oky := hid ((oL.out.app oM.out).ok (by omega) (by rw [List.length_append]; omega))
  obtain ⟨un, hun⟩ : ∃ k, l.length = k := ⟨_, rfl⟩
  obtain ⟨vn, hvn⟩ : ∃ k, m.length = k := ⟨_, rfl⟩
  rw [hun] at hu hll ⊢
  rw [hvn] at hv hlm ⊢
  replace hun := hid hun
  replace hvn := hid hvn
  replace hu := hu.alloc (.cells #[.int .i64 n, .slice ua un ue] 40)
  replace hv := hv.alloc (.cells #[.int .i64 n, .slice ua un ue] 40)
  have hA := Bx.new w1 #[.int .i64 n, .slice ua un ue] 40
  replace hb := hb.alloc hb.size (.cells #[.int .i64 n, .slice ua un ue] 40)
  replace hu := hu.alloc (.cells #[.int .i64 n, .slice va vn ve] 40)
  replace hv := hv.alloc (.cells #[.int .i64 n, .slice va vn ve] 40)
  replace hA := hA.alloc (.cells #[.int .i64 n, .slice va vn ve] 40)
  have hB := Bx.new (w1.alloc (.cells #[.int .i64 n, .slice ua un ue] 40)) #[.int .i64 n, .slice va vn ve] 40
  simp only [World.size_alloc] at hB
  replace hb := hb.alloc hb.size (.cells #[.int .i64 n, .slice va vn ve] 40)
  have c_a0 := hA.cell 0 rfl
  have c_a1 := hA.cell 1 rfl
  have c_b0 := hB.cell 0 rfl
  have c_b1 := hB.cell 1 rfl
  go_wp2_with fail
  clear c_a0 c_a1 c_b0 c_b1
  generalize ((w1.alloc (.cells #[.int .i64 n, .slice ua un ue] 40)).alloc (.cells #[.int .i64 n, .slice va vn ve] 40)) = w2 at *
  have hK := hid (fun (w' : World) (h : Below w2.heap.size w2 w') => (⟨(hA.below h).cell 0 rfl, (hA.below h).cell 1 rfl⟩ : w'.cell? ⟨w1.heap.size, 0, none⟩ = some (.int .i64 n) ∧ w'.cell? ⟨w1.heap.size, 1, none⟩ = some (.slice ua un ue)))
  have hCI := hid (fun (w' : World) (h : Below w2.heap.size w2 w') => inv9 okl.out _ w' (hu.below h))
  have hCJ := hid (fun (w' : World) (x : Value) (hx : Reads w' x (ints (invW l))) (h : Below w2.heap.size w2 w') => jn9 okl.out oki.out (by rw [length_invW, hun.out]; omega) _ x w' (hu.below h) hx)
  have hS0 := Below.refl w2.heap.size w2
  refine wp_region_noPanic ?_
  refine wp_region_held_drew (S := fun w' => Below w2.heap.size w2 w' ∧ w'.cell? ⟨w1.heap.size, 0, none⟩ = some (.int .i64 n) ∧ w'.cell? ⟨w1.heap.size, 1, none⟩ = some (.slice ua un ue)) (by kernel_rfl) ?_ (fun hHeld => ?_)
  focus (first | exact ⟨below_set2 hbj (by omega) _ _, hK.out _ (below_set2 hbj (by omega) _ _)⟩ | exact ⟨by assumption, hK.out _ (by assumption)⟩ | exact ⟨(by repeat (first | assumption | exact Below.refl _ _ | apply below_alloc_self | apply below_drewS)), hK.out _ (by repeat (first | assumption | exact Below.refl _ _ | apply below_alloc_self | apply below_drewS))⟩)
  refine wpAnyH_take (i := 0) (v := ?_) rfl (by kernel_rfl) (by kernel_rfl) (by kernel_rfl) (fun _ _ _ h => h) (Or.inl ⟨by kernel_rfl, ?_⟩) (by assumption) ?_; rotate_left; (focus ((intro w hSw; (try dsimp only at hSw); go_simp) <;> with_reducible rfl)); (try dsimp [Act.put]); (try simp only [List.setIfInBounds_toArray, List.set_cons_zero, List.set_cons_succ])
  refine wpAnyH_take (i := 1) (v := ?_) rfl (by kernel_rfl) (by kernel_rfl) (by kernel_rfl) (fun _ _ _ h => h) (Or.inl ⟨by kernel_rfl, ?_⟩) (by assumption) ?_; rotate_left; (focus ((intro w hSw; (try dsimp only at hSw); go_simp) <;> with_reducible rfl)); (try dsimp [Act.put]); (try simp only [List.setIfInBounds_toArray, List.set_cons_zero, List.set_cons_succ])
  refine wpAnyH_ready (rs := [2, 7]) (by kernel_rfl) (by simp) ?_
  refine AllReadyH.cons (o := { dst := some 27, op := .call { callee := .value (.func 41), args := #[.tmp 26], argTypes := #[40] }, type := _, pos := _, after := _, guard := _ }) rfl (fun KK hKK => ?_) ?_
  · refine step_call (hCI.out _ (by repeat (first | assumption | exact Below.refl _ _ | apply below_alloc_self | apply below_drewS))) (fun _ => by kernel_rfl) rfl (.tmp 26) rfl (by first | rfl | simp [Act.eval]) ?_
    rintro e wi ⟨xi, rfl, hxi, hsi⟩
    refine ⟨_, rfl, ?_⟩
    have hbi : Below w2.heap.size w2 wi := (show Below w2.heap.size w2 _ from (by repeat (first | assumption | exact Below.refl _ _ | apply below_alloc_self | apply below_drewS))).trans (hsi.mono (show Below w2.heap.size w2 _ from (by repeat (first | assumption | exact Below.refl _ _ | apply below_alloc_self | apply below_drewS))).size)
    have hzi := hbi.size
    have hzi2 := hsi.size
    try simp at hzi2
    obtain ⟨ia, iN, ie, rfl⟩ := own_lit' hxi
    have hxr := hid hxi.reads
    first | (have hBi : Bx wi w2.heap.size [.int .i64 0, .slice none 0 0] := ((Bx.new w2 #[.int .i64 0, .slice none 0 0] 40).drew).below hsi) | skip
    refine hKK.out _ _ ?_ (fun hHeld => ?_)
    focus (first | exact ⟨below_set2 hbj (by omega) _ _, hK.out _ (below_set2 hbj (by omega) _ _)⟩ | exact ⟨by assumption, hK.out _ (by assumption)⟩ | exact ⟨(by repeat (first | assumption | exact Below.refl _ _ | apply below_alloc_self | apply below_drewS)), hK.out _ (by repeat (first | assumption | exact Below.refl _ _ | apply below_alloc_self | apply below_drewS))⟩)
    clear hKK KK
    (try dsimp [Act.put]); (try simp only [List.setIfInBounds_toArray, List.set_cons_zero, List.set_cons_succ])
    refine wpAnyH_ready (rs := [3, 7]) (by kernel_rfl) (by simp) ?_
    refine AllReadyH.cons (o := { dst := some 28, op := .call { callee := .value (.func 40), args := #[.tmp 25, .tmp 27], argTypes := #[40, 40] }, type := _, pos := _, after := _, guard := _ }) rfl (fun KK hKK => ?_) ?_
    · refine step_call2 (hCJ.out _ _ (by first | exact hxr.out | exact hxr.out.below ((Below.refl _ _).alloc (Nat.le_refl _) _)) (by repeat (first | assumption | exact Below.refl _ _ | apply below_alloc_self | apply below_drewS))) (fun _ => by kernel_rfl) rfl (.tmp 25) (.tmp 27) rfl (by first | rfl | simp [Act.eval]) (by first | rfl | simp [Act.eval]) ?_
      rintro e wj ⟨xj, rfl, hxj, hsj⟩
      refine ⟨_, rfl, ?_⟩
      have hbj : Below w2.heap.size w2 wj := (show Below w2.heap.size w2 _ from (by repeat (first | assumption | exact Below.refl _ _ | apply below_alloc_self | apply below_drewS))).trans (hsj.mono (show Below w2.heap.size w2 _ from (by repeat (first | assumption | exact Below.refl _ _ | apply below_alloc_self | apply below_drewS))).size)
      have hzj := hsj.size
      try simp at hzj
      have hzj0 := hbj.size
      obtain ⟨ja, jn, je, rfl⟩ := own_lit' hxj
      first | (have hB9 : Bx wj w2.heap.size [.int .i64 0, .slice none 0 0] := hBi.below hsj; have q0 := hB9.cell 0 rfl; have q1 := hB9.cell 1 rfl; have qf0 := hB9.frozen 0; have qf1 := hB9.frozen 1) | (have hB9 : Bx wj wi.heap.size [.int .i64 0, .slice none 0 0] := (Bx.new wi #[.int .i64 0, .slice none 0 0] 40).below hsj; have q0 := hB9.cell 0 rfl; have q1 := hB9.cell 1 rfl; have qf0 := hB9.frozen 0; have qf1 := hB9.frozen 1) | skip
      refine hKK.out _ _ ?_ (fun hHeld => ?_)
      focus (first | exact ⟨below_set2 hbj (by omega) _ _, hK.out _ (below_set2 hbj (by omega) _ _)⟩ | exact ⟨by assumption, hK.out _ (by assumption)⟩ | exact ⟨(by repeat (first | assumption | exact Below.refl _ _ | apply below_alloc_self | apply below_drewS)), hK.out _ (by repeat (first | assumption | exact Below.refl _ _ | apply below_alloc_self | apply below_drewS))⟩)
      clear hKK KK
      (try dsimp [Act.put]); (try simp only [List.setIfInBounds_toArray, List.set_cons_zero, List.set_cons_succ])
      refine wpAnyH_take (i := 4) (v := ?_) rfl (by kernel_rfl) (by kernel_rfl) (by kernel_rfl) (fun _ _ _ h => h) (Or.inl ⟨by kernel_rfl, ?_⟩) (by assumption) ?_; rotate_left; (focus ((intro w hSw; (try dsimp only at hSw); go_simp) <;> with_reducible rfl)); (try dsimp [Act.put]); (try simp only [List.setIfInBounds_toArray, List.set_cons_zero, List.set_cons_succ])
      refine wpAnyH_take (i := 5) (v := ?_) rfl (by kernel_rfl) (by kernel_rfl) (by kernel_rfl) (fun _ _ _ h => h) (Or.inl ⟨by kernel_rfl, ?_⟩) (by assumption) ?_; rotate_left; (focus ((intro w hSw; (try dsimp only at hSw); go_simp) <;> with_reducible rfl)); (try dsimp [Act.put]); (try simp only [List.setIfInBounds_toArray, List.set_cons_zero, List.set_cons_succ])
      refine wpAnyH_take (i := 6) (v := ?_) rfl (by kernel_rfl) (by kernel_rfl) (by kernel_rfl) (fun _ _ _ h => h) (Or.inl ⟨by kernel_rfl, ?_⟩) (by assumption) ?_; rotate_left; (focus ((intro w hSw; (try dsimp only at hSw); go_simp) <;> with_reducible rfl)); (try dsimp [Act.put]); (try simp only [List.setIfInBounds_toArray, List.set_cons_zero, List.set_cons_succ])
      refine wpAnyH_ready (rs := [7]) (by kernel_rfl) (by simp) ?_
      refine AllReadyH.cons rfl (fun KK hKK => ?_) AllReadyH.nil
      go_simp
      refine hKK.out _ _ ?_ (fun hHeld => ?_)
      focus (first | exact ⟨below_set2 hbj (by omega) _ _, hK.out _ (below_set2 hbj (by omega) _ _)⟩ | exact ⟨by assumption, hK.out _ (by assumption)⟩ | exact ⟨(by repeat (first | assumption | exact Below.refl _ _ | apply below_alloc_self | apply below_drewS)), hK.out _ (by repeat (first | assumption | exact Below.refl _ _ | apply below_alloc_self | apply below_drewS))⟩)
      clear hKK KK
      (try dsimp [Act.put]); (try simp only [List.setIfInBounds_toArray, List.set_cons_zero, List.set_cons_succ])
      refine wpAnyH_ready (rs := [8]) (by kernel_rfl) (by simp) ?_
      refine AllReadyH.cons rfl (fun KK hKK => ?_) AllReadyH.nil
      go_simp
      refine hKK.out _ _ ?_ (fun hHeld => ?_)
      focus (first | exact ⟨below_set2 hbj (by omega) _ _, hK.out _ (below_set2 hbj (by omega) _ _)⟩ | exact ⟨by assumption, hK.out _ (by assumption)⟩ | exact ⟨(by repeat (first | assumption | exact Below.refl _ _ | apply below_alloc_self | apply below_drewS)), hK.out _ (by repeat (first | assumption | exact Below.refl _ _ | apply below_alloc_self | apply below_drewS))⟩)
      clear hKK KK
      (try dsimp [Act.put]); (try simp only [List.setIfInBounds_toArray, List.set_cons_zero, List.set_cons_succ])
      refine wpAnyH_take (i := 9) (v := ?_) rfl (by kernel_rfl) (by kernel_rfl) (by kernel_rfl) (fun _ _ _ h => h) (Or.inl ⟨by kernel_rfl, ?_⟩) (by assumption) ?_; rotate_left; (focus ((intro w hSw; (try dsimp only at hSw); go_simp) <;> with_reducible rfl)); (try dsimp [Act.put]); (try simp only [List.setIfInBounds_toArray, List.set_cons_zero, List.set_cons_succ])
      refine wpAnyH_done (by kernel_rfl) ?_ _
      refine NoPanic.normal ?_
      clear hHeld
      first
      | (have hXF : Bx ((wj.setCell ⟨w2.heap.size, 0, none⟩ (.int .i64 n)).setCell ⟨w2.heap.size, 1, none⟩ (.slice ja jn je)) (w2.heap.size) [.int .i64 n, .slice ja jn je] := (hB9.set 0 (.int .i64 n)).set 1 (.slice ja jn je)
         have hne : blk (.slice ja jn je) ≠ some (w2.heap.size) := fun e => by have := (hxj.blk_lt e).1; (try simp only [World.size_alloc] at this); omega
         have hrF := ((hxj.other (a := ⟨w2.heap.size, 0, none⟩) hne (.int .i64 n)).other (a := ⟨w2.heap.size, 1, none⟩) hne (.slice ja jn je)).reads
         have hbX := below_set2 (g := w2.heap.size) hbj (by omega) (.int .i64 n) (.slice ja jn je)
         clear q0 q1 qf0 qf1 hB9 hne hxj
         generalize ((wj.setCell ⟨w2.heap.size, 0, none⟩ (.int .i64 n)).setCell ⟨w2.heap.size, 1, none⟩ (.slice ja jn je)) = wX at *
         obtain ⟨gX, hgX⟩ : ∃ g, g = w2.heap.size := ⟨_, rfl⟩
         rw [← hgX] at hXF ⊢
         replace hgX := hid hgX)
      | (have hXF : Bx ((wj.setCell ⟨wi.heap.size, 0, none⟩ (.int .i64 n)).setCell ⟨wi.heap.size, 1, none⟩ (.slice ja jn je)) (wi.heap.size) [.int .i64 n, .slice ja jn je] := (hB9.set 0 (.int .i64 n)).set 1 (.slice ja jn je)
         have hne : blk (.slice ja jn je) ≠ some (wi.heap.size) := fun e => by have := (hxj.blk_lt e).1; (try simp only [World.size_alloc] at this); omega
         have hrF := ((hxj.other (a := ⟨wi.heap.size, 0, none⟩) hne (.int .i64 n)).other (a := ⟨wi.heap.size, 1, none⟩) hne (.slice ja jn je)).reads
         have hbX := below_set2 (g := wi.heap.size) hbj (by omega) (.int .i64 n) (.slice ja jn je)
         clear q0 q1 qf0 qf1 hB9 hne hxj
         generalize ((wj.setCell ⟨wi.heap.size, 0, none⟩ (.int .i64 n)).setCell ⟨wi.heap.size, 1, none⟩ (.slice ja jn je)) = wX at *
         obtain ⟨gX, hgX⟩ : ∃ g, g = wi.heap.size := ⟨_, rfl⟩
         rw [← hgX] at hXF ⊢
         replace hgX := hid hgX)
      | (try rw [alloc_store2]
         have hXF := Bx.new wj #[.int .i64 n, .slice ja jn je] 40
         have hrF := (own_alloc hxj (.cells #[.int .i64 n, .slice ja jn je] 40)).reads
         have hbX := below_alloc_self hbj (.cells #[.int .i64 n, .slice ja jn je] 40)
         clear hxj
         generalize wj.alloc (.cells #[.int .i64 n, .slice ja jn je] 40) = wX at *
         obtain ⟨gX, hgX⟩ : ∃ g, g = wj.heap.size := ⟨_, rfl⟩
         rw [← hgX] at hXF ⊢
         replace hgX := hid hgX)
      replace hu := hu.below hbX
      replace hv := hv.below hbX
      replace hA := hA.below hbX
      replace hB := hB.below hbX
      replace hb := hb.trans (hbX.mono hb.size)
      clear hbX hK hCI hCJ hS0
      have c_a0 := hA.cell 0 rfl
      have c_a1 := hA.cell 1 rfl
      have c_b0 := hB.cell 0 rfl
      have c_b1 := hB.cell 1 rfl
      have c_x0 := hXF.cell 0 rfl
      have c_x1 := hXF.cell 1 rfl
      go_wp2_with fail
      clear c_a0 c_a1 c_b0 c_b1 c_x0 c_x1
      refine (jn9 okl.out okm.out (by rw [hun.out, hvn.out]; omega) _ _ _ hu hv).mono ?_
      rintro e w41 ⟨y, rfl, hy, hs⟩
      replace hu := hu.below hs
      replace hv := hv.below hs
      replace hrF := hrF.below hs
      replace hA := hA.below hs
      replace hB := hB.below hs
      replace hXF := hXF.below hs
      replace hb := hb.trans (hs.mono hb.size)
      clear hs
      replace hy := hy.reads
      obtain ⟨ya, yn, yc, rfl⟩ : ∃ a n c, y = Value.slice a n c := by obtain ⟨a, c, e, -⟩ := hy.form; exact ⟨a, _, c, e⟩
      replace hu := hu.alloc (.cells #[.int .i64 n, .slice ya yn yc] 40)
      replace hv := hv.alloc (.cells #[.int .i64 n, .slice ya yn yc] 40)
      replace hrF := hrF.alloc (.cells #[.int .i64 n, .slice ya yn yc] 40)
      replace hy := hy.alloc (.cells #[.int .i64 n, .slice ya yn yc] 40)
      replace hA := hA.alloc (.cells #[.int .i64 n, .slice ya yn yc] 40)
      replace hB := hB.alloc (.cells #[.int .i64 n, .slice ya yn yc] 40)
      replace hXF := hXF.alloc (.cells #[.int .i64 n, .slice ya yn yc] 40)
      have hY := Bx.new w41 #[.int .i64 n, .slice ya yn yc] 40
      replace hb := hb.alloc hb.size (.cells #[.int .i64 n, .slice ya yn yc] 40)
      have c_a0 := hA.cell 0 rfl
      have c_a1 := hA.cell 1 rfl
      have c_b0 := hB.cell 0 rfl
      have c_b1 := hB.cell 1 rfl
      have c_x0 := hXF.cell 0 rfl
      have c_x1 := hXF.cell 1 rfl
      have c_y0 := hY.cell 0 rfl
      have c_y1 := hY.cell 1 rfl
      go_wp2_with fail
      clear c_a0 c_a1 c_b0 c_b1 c_x0 c_x1 c_y0 c_y1
      generalize (w41.alloc (.cells #[.int .i64 n, .slice ya yn yc] 40)) = w42 at *
      have hK := hid (fun (w' : World) (h : Below w42.heap.size w42 w') => (⟨(hXF.below h).cell 0 rfl, (hXF.below h).cell 1 rfl, (hY.below h).cell 0 rfl, (hY.below h).cell 1 rfl, (hA.below h).cell 0 rfl, (hA.below h).cell 1 rfl, (hB.below h).cell 0 rfl, (hB.below h).cell 1 rfl⟩ : w'.cell? ⟨gX, 0, none⟩ = some (.int .i64 n) ∧ w'.cell? ⟨gX, 1, none⟩ = some (.slice ja jn je) ∧ w'.cell? ⟨w41.heap.size, 0, none⟩ = some (.int .i64 n) ∧ w'.cell? ⟨w41.heap.size, 1, none⟩ = some (.slice ya yn yc) ∧ w'.cell? ⟨w1.heap.size, 0, none⟩ = some (.int .i64 n) ∧ w'.cell? ⟨w1.heap.size, 1, none⟩ = some (.slice ua un ue) ∧ w'.cell? ⟨(w1.heap.size + 1), 0, none⟩ = some (.int .i64 n) ∧ w'.cell? ⟨(w1.heap.size + 1), 1, none⟩ = some (.slice va vn ve)))
      have hbD : Below w42.heap.size w42 w42.drew := (Below.refl _ _).drew
      have hC1 := hid (fun (w' : World) (h : Below w42.heap.size w42 w') => (red0 okx.out (red_inv l) _ w' (hrF.below h)).mono fun e w'' ⟨a, c, h1, h2⟩ => (⟨a, c, h1, h.trans (h2.mono h.size)⟩ : ∃ a c, e = Ending.returned (.agg #[.int .i64 n, .slice a 0 c]) ∧ Below w42.heap.size w42 w''))
      obtain ⟨e1, he1⟩ : ∃ e1, expF n l = e1 := ⟨_, rfl⟩
      obtain ⟨e2, he2⟩ : ∃ e2, expF n m = e2 := ⟨_, rfl⟩
      have hb1 := exp_bd (n := n) (l := l) (by rw [hun.out]; omega)
      have hb2 := exp_bd (n := n) (l := m) (by rw [hvn.out]; omega)
      rw [he1] at hb1
      rw [he2] at hb2
      have hC2 := hid (fun (w' : World) (h : Below w42.heap.size w42 w') => calls_fromB (by have := expo_impl n _ _ w' (hy.below h); rw [exp_app okl.out okm.out oky.out, he1, he2] at this; exact this) h)
      have hC3 := hid (fun (w' : World) (h : Below w42.heap.size w42 w') => calls_fromB (by have := expo_impl n _ _ w' (hu.below h); rw [he1] at this; exact this) h)
      have hC4 := hid (fun (w' : World) (h : Below w42.heap.size w42 w') => calls_fromB (by have := expo_impl n _ _ w' (hv.below h); rw [he2] at this; exact this) h)
      replace he1 := hid he1
      replace he2 := hid he2
      have hwe := Go.IntWalk.i64_in (e1 + e2) (by omega)
      have hfd : ∀ (a : Option Addr) (c : Nat) (w : World), (Instr.field 40 (.agg #[.int .i64 n, .slice a 0 c]) 1).run Tryd.prog w = .ok (.slice a 0 c) w := fun _ _ _ => by kernel_rfl
      refine wp_region_noPanic ?_
      refine wp_region_held_drew (S := fun w' => Below w42.heap.size w42 w' ∧ w'.cell? ⟨gX, 0, none⟩ = some (.int .i64 n) ∧ w'.cell? ⟨gX, 1, none⟩ = some (.slice ja jn je) ∧ w'.cell? ⟨w41.heap.size, 0, none⟩ = some (.int .i64 n) ∧ w'.cell? ⟨w41.heap.size, 1, none⟩ = some (.slice ya yn yc) ∧ w'.cell? ⟨w1.heap.size, 0, none⟩ = some (.int .i64 n) ∧ w'.cell? ⟨w1.heap.size, 1, none⟩ = some (.slice ua un ue) ∧ w'.cell? ⟨(w1.heap.size + 1), 0, none⟩ = some (.int .i64 n) ∧ w'.cell? ⟨(w1.heap.size + 1), 1, none⟩ = some (.slice va vn ve)) (by kernel_rfl) ?_ (fun hHeld => ?_)
      focus (first | exact ⟨hbD, hK.out _ hbD⟩ | exact ⟨by assumption, hK.out _ (by assumption)⟩)
      refine wpAnyH_take (i := 0) (v := ?_) rfl (by kernel_rfl) (by kernel_rfl) (by kernel_rfl) (fun _ _ _ h => h) (Or.inl ⟨by kernel_rfl, ?_⟩) (by assumption) ?_; rotate_left; (focus ((intro w hSw; (try dsimp only at hSw); go_simp) <;> with_reducible rfl)); (try dsimp [Act.put]); (try simp only [List.setIfInBounds_toArray, List.set_cons_zero, List.set_cons_succ])
      refine wpAnyH_take (i := 1) (v := ?_) rfl (by kernel_rfl) (by kernel_rfl) (by kernel_rfl) (fun _ _ _ h => h) (Or.inl ⟨by kernel_rfl, ?_⟩) (by assumption) ?_; rotate_left; (focus ((intro w hSw; (try dsimp only at hSw); go_simp) <;> with_reducible rfl)); (try dsimp [Act.put]); (try simp only [List.setIfInBounds_toArray, List.set_cons_zero, List.set_cons_succ])
      refine wpAnyH_take (i := 2) (v := ?_) rfl (by kernel_rfl) (by kernel_rfl) (by kernel_rfl) (fun _ _ _ h => h) (Or.inl ⟨by kernel_rfl, ?_⟩) (by assumption) ?_; rotate_left; (focus ((intro w hSw; (try dsimp only at hSw); go_simp) <;> with_reducible rfl)); (try dsimp [Act.put]); (try simp only [List.setIfInBounds_toArray, List.set_cons_zero, List.set_cons_succ])
      refine wpAnyH_take (i := 3) (v := ?_) rfl (by kernel_rfl) (by kernel_rfl) (by kernel_rfl) (fun _ _ _ h => h) (Or.inl ⟨by kernel_rfl, ?_⟩) (by assumption) ?_; rotate_left; (focus ((intro w hSw; (try dsimp only at hSw); go_simp) <;> with_reducible rfl)); (try dsimp [Act.put]); (try simp only [List.setIfInBounds_toArray, List.set_cons_zero, List.set_cons_succ])
      refine wpAnyH_take (i := 4) (v := ?_) rfl (by kernel_rfl) (by kernel_rfl) (by kernel_rfl) (fun _ _ _ h => h) (Or.inl ⟨by kernel_rfl, ?_⟩) (by assumption) ?_; rotate_left; (focus ((intro w hSw; (try dsimp only at hSw); go_simp) <;> with_reducible rfl)); (try dsimp [Act.put]); (try simp only [List.setIfInBounds_toArray, List.set_cons_zero, List.set_cons_succ])
      refine wpAnyH_take (i := 5) (v := ?_) rfl (by kernel_rfl) (by kernel_rfl) (by kernel_rfl) (fun _ _ _ h => h) (Or.inl ⟨by kernel_rfl, ?_⟩) (by assumption) ?_; rotate_left; (focus ((intro w hSw; (try dsimp only at hSw); go_simp) <;> with_reducible rfl)); (try dsimp [Act.put]); (try simp only [List.setIfInBounds_toArray, List.set_cons_zero, List.set_cons_succ])
      refine wpAnyH_take (i := 6) (v := ?_) rfl (by kernel_rfl) (by kernel_rfl) (by kernel_rfl) (fun _ _ _ h => h) (Or.inl ⟨by kernel_rfl, ?_⟩) (by assumption) ?_; rotate_left; (focus ((intro w hSw; (try dsimp only at hSw); go_simp) <;> with_reducible rfl)); (try dsimp [Act.put]); (try simp only [List.setIfInBounds_toArray, List.set_cons_zero, List.set_cons_succ])
      refine wpAnyH_take (i := 7) (v := ?_) rfl (by kernel_rfl) (by kernel_rfl) (by kernel_rfl) (fun _ _ _ h => h) (Or.inl ⟨by kernel_rfl, ?_⟩) (by assumption) ?_; rotate_left; (focus ((intro w hSw; (try dsimp only at hSw); go_simp) <;> with_reducible rfl)); (try dsimp [Act.put]); (try simp only [List.setIfInBounds_toArray, List.set_cons_zero, List.set_cons_succ])
      refine wpAnyH_ready (rs := [8]) (by kernel_rfl) (by simp) ?_
      refine AllReadyH.cons (o := { dst := some 45, op := .call { callee := .value (.func 42), args := #[.tmp 44], argTypes := #[40] }, type := _, pos := _, after := _, guard := _ }) rfl (fun KK hKK => ?_) AllReadyH.nil
      refine step_callw (hC1.out _ (by first | assumption | exact hHeld.1)) (fun _ => by kernel_rfl) (by kernel_rfl) (.tmp 44) rfl rfl ?_
      rintro e wa ⟨ra, rc, rfl, hba⟩
      refine ⟨_, rfl, ?_⟩
      refine hKK.out _ _ ?_ (fun hHeld => ?_)
      focus (first | exact ⟨hbD, hK.out _ hbD⟩ | exact ⟨by assumption, hK.out _ (by assumption)⟩)
      clear hKK KK
      (try dsimp [Act.put]); (try simp only [List.setIfInBounds_toArray, List.set_cons_zero, List.set_cons_succ])
      refine wpAnyH_take (i := 9) (v := ?_) rfl (by kernel_rfl) (by kernel_rfl) (by kernel_rfl) (fun _ _ _ h => h) (Or.inl ⟨by kernel_rfl, ?_⟩) (by assumption) ?_; rotate_left; (focus ((intro w hSw; (try dsimp only at hSw); go_simp) <;> with_reducible rfl)); (try dsimp [Act.put]); (try simp only [List.setIfInBounds_toArray, List.set_cons_zero, List.set_cons_succ])
      refine wpAnyH_take (i := 10) (v := ?_) rfl (by kernel_rfl) (by kernel_rfl) (by kernel_rfl) (fun _ _ _ h => h) (Or.inl ⟨by kernel_rfl, ?_⟩) (by assumption) ?_; rotate_left; (focus ((intro w hSw; (try dsimp only at hSw); go_simp) <;> with_reducible rfl)); (try dsimp [Act.put]); (try simp only [List.setIfInBounds_toArray, List.set_cons_zero, List.set_cons_succ])
      refine wpAnyH_take (i := 11) (v := ?_) rfl (by kernel_rfl) (by kernel_rfl) (by kernel_rfl) (fun _ _ _ h => h) (Or.inl ⟨by kernel_rfl, ?_⟩) (by assumption) ?_; rotate_left; (focus ((intro w hSw; (try dsimp only at hSw); go_simp) <;> with_reducible rfl)); (try dsimp [Act.put]); (try simp only [List.setIfInBounds_toArray, List.set_cons_zero, List.set_cons_succ])
      refine wpAnyH_take (i := 12) (v := ?_) rfl (by kernel_rfl) (by kernel_rfl) (by kernel_rfl) (fun _ _ _ h => h) (Or.inl ⟨by kernel_rfl, ?_⟩) (by assumption) ?_; rotate_left; (focus ((intro w hSw; (try dsimp only at hSw); go_simp) <;> with_reducible rfl)); (try dsimp [Act.put]); (try simp only [List.setIfInBounds_toArray, List.set_cons_zero, List.set_cons_succ])
      refine wpAnyH_take (i := 13) (v := ?_) rfl (by kernel_rfl) (by kernel_rfl) (by kernel_rfl) (fun _ _ _ h => h) (Or.inl ⟨by kernel_rfl, ?_⟩) (by assumption) ?_; rotate_left; (focus ((intro w hSw; (try dsimp only at hSw); go_simp) <;> with_reducible rfl)); (try dsimp [Act.put]); (try simp only [List.setIfInBounds_toArray, List.set_cons_zero, List.set_cons_succ])
      refine wpAnyH_take (i := 14) (v := ?_) rfl (by kernel_rfl) (by kernel_rfl) (by kernel_rfl) (fun _ _ _ h => h) (Or.inl ⟨by kernel_rfl, ?_⟩) (by assumption) ?_; rotate_left; (focus ((intro w hSw; (try dsimp only at hSw); go_simp) <;> with_reducible rfl)); (try dsimp [Act.put]); (try simp only [List.setIfInBounds_toArray, List.set_cons_zero, List.set_cons_succ])
      refine wpAnyH_take (i := 16) (v := ?_) rfl (by kernel_rfl) (by kernel_rfl) (by kernel_rfl) (fun _ _ _ h => h) (Or.inl ⟨by kernel_rfl, ?_⟩) (by assumption) ?_; rotate_left; (focus ((intro w hSw; (try dsimp only at hSw); go_simp) <;> with_reducible rfl)); (try dsimp [Act.put]); (try simp only [List.setIfInBounds_toArray, List.set_cons_zero, List.set_cons_succ])
      refine wpAnyH_take (i := 18) (v := ?_) rfl (by kernel_rfl) (by kernel_rfl) (by kernel_rfl) (fun _ _ _ h => h) (Or.inl ⟨by kernel_rfl, ?_⟩) (by assumption) ?_; rotate_left; (focus ((intro w hSw; (try dsimp only at hSw); go_simp) <;> with_reducible rfl)); (try dsimp [Act.put]); (try simp only [List.setIfInBounds_toArray, List.set_cons_zero, List.set_cons_succ])
      refine wpAnyH_ready (rs := [15]) (by kernel_rfl) (by simp) ?_
      refine AllReadyH.cons (o := { dst := some 52, op := .call { callee := .value (.func 43), args := #[.tmp 51], argTypes := #[40] }, type := _, pos := _, after := _, guard := _ }) rfl (fun KK hKK => ?_) AllReadyH.nil
      refine step_callw (hC2.out _ (by first | assumption | exact hHeld.1)) (fun _ => by kernel_rfl) (by kernel_rfl) (.tmp 51) rfl rfl ?_
      rintro e wb ⟨rfl, hbb⟩
      refine ⟨_, rfl, ?_⟩
      refine hKK.out _ _ ?_ (fun hHeld => ?_)
      focus (first | exact ⟨hbD, hK.out _ hbD⟩ | exact ⟨by assumption, hK.out _ (by assumption)⟩)
      clear hKK KK
      (try dsimp [Act.put]); (try simp only [List.setIfInBounds_toArray, List.set_cons_zero, List.set_cons_succ])
      refine wpAnyH_ready (rs := [17]) (by kernel_rfl) (by simp) ?_
      refine AllReadyH.cons (o := { dst := some 54, op := .call { callee := .value (.func 43), args := #[.tmp 53], argTypes := #[40] }, type := _, pos := _, after := _, guard := _ }) rfl (fun KK hKK => ?_) AllReadyH.nil
      refine step_callw (hC3.out _ (by first | assumption | exact hHeld.1)) (fun _ => by kernel_rfl) (by kernel_rfl) (.tmp 53) rfl rfl ?_
      rintro e wc ⟨rfl, hbc⟩
      refine ⟨_, rfl, ?_⟩
      refine hKK.out _ _ ?_ (fun hHeld => ?_)
      focus (first | exact ⟨hbD, hK.out _ hbD⟩ | exact ⟨by assumption, hK.out _ (by assumption)⟩)
      clear hKK KK
      (try dsimp [Act.put]); (try simp only [List.setIfInBounds_toArray, List.set_cons_zero, List.set_cons_succ])
      refine wpAnyH_ready (rs := [19]) (by kernel_rfl) (by simp) ?_
      refine AllReadyH.cons (o := { dst := some 56, op := .call { callee := .value (.func 43), args := #[.tmp 55], argTypes := #[40] }, type := _, pos := _, after := _, guard := _ }) rfl (fun KK hKK => ?_) AllReadyH.nil
      refine step_callw (hC4.out _ (by first | assumption | exact hHeld.1)) (fun _ => by kernel_rfl) (by kernel_rfl) (.tmp 55) rfl rfl ?_
      rintro e wd ⟨rfl, hbd⟩
      refine ⟨_, rfl, ?_⟩
      refine hKK.out _ _ ?_ (fun hHeld => ?_)
      focus (first | exact ⟨hbD, hK.out _ hbD⟩ | exact ⟨by assumption, hK.out _ (by assumption)⟩)
      clear hKK KK
      (try dsimp [Act.put]); (try simp only [List.setIfInBounds_toArray, List.set_cons_zero, List.set_cons_succ])
      refine wpAnyH_take (i := 20) (v := ?_) rfl (by kernel_rfl) (by kernel_rfl) (by kernel_rfl) (fun _ _ _ h => h) (Or.inl ⟨by kernel_rfl, ?_⟩) (by assumption) ?_; rotate_left; (focus ((intro w hSw; (try dsimp only at hSw); go_simp) <;> with_reducible rfl)); (try dsimp [Act.put]); (try simp only [List.setIfInBounds_toArray, List.set_cons_zero, List.set_cons_succ])
      refine wpAnyH_take (i := 21) (v := ?_) rfl (by kernel_rfl) (by kernel_rfl) (by kernel_rfl) (fun _ _ _ h => h) (Or.inl ⟨by kernel_rfl, ?_⟩) (by assumption) ?_; rotate_left; (focus ((intro w hSw; (try dsimp only at hSw); go_simp) <;> with_reducible rfl)); (try dsimp [Act.put]); (try simp only [List.setIfInBounds_toArray, List.set_cons_zero, List.set_cons_succ])
      refine wpAnyH_take (i := 22) (v := ?_) rfl (by kernel_rfl) (by kernel_rfl) (by kernel_rfl) (fun _ _ _ h => h) (Or.inl ⟨by kernel_rfl, ?_⟩) (by assumption) ?_; rotate_left; (focus ((intro w hSw; (try dsimp only at hSw); go_simp) <;> with_reducible rfl)); (try dsimp [Act.put]); (try simp only [List.setIfInBounds_toArray, List.set_cons_zero, List.set_cons_succ])
      refine wpAnyH_done (by kernel_rfl) ?_ _
      refine NoPanic.normal ?_
      replace hu := hu.below hbd
      replace hv := hv.below hbd
      replace hrF := hrF.below hbd
      replace hy := hy.below hbd
      replace hA := hA.below hbd
      replace hB := hB.below hbd
      replace hXF := hXF.below hbd
      replace hY := hY.below hbd
      replace hb := hb.trans (hbd.mono hb.size)
      clear hHeld hbd hba hbb hbc hC1 hC2 hC3 hC4 hK hbD hwe
      have hPJ := hid (perm_join okl.out okm.out oky.out)
      have c_a0 := hA.cell 0 rfl
      have c_a1 := hA.cell 1 rfl
      have c_b0 := hB.cell 0 rfl
      have c_b1 := hB.cell 1 rfl
      have c_x0 := hXF.cell 0 rfl
      have c_x1 := hXF.cell 1 rfl
      have c_y0 := hY.cell 0 rfl
      have c_y1 := hY.cell 1 rfl
      go_wp2_with fail
      clear c_a0 c_a1 c_b0 c_b1 c_x0 c_x1 c_y0 c_y1
      refine (bp9 _ _ hu).mono ?_
      rintro e w43 ⟨p, rfl, hp, hs⟩
      replace hu := hu.below hs
      replace hv := hv.below hs
      replace hrF := hrF.below hs
      replace hy := hy.below hs
      replace hA := hA.below hs
      replace hB := hB.below hs
      replace hXF := hXF.below hs
      replace hY := hY.below hs
      replace hb := hb.trans (hs.mono hb.size)
      clear hs
      have hlp := hp.len (P := Tryd.prog) 35 3 ⟨_, sliceI⟩
      rw [length_ints, permB_len okl.out] at hlp
      have c_a0 := hA.cell 0 rfl
      have c_a1 := hA.cell 1 rfl
      have c_b0 := hB.cell 0 rfl
      have c_b1 := hB.cell 1 rfl
      have c_x0 := hXF.cell 0 rfl
      have c_x1 := hXF.cell 1 rfl
      have c_y0 := hY.cell 0 rfl
      have c_y1 := hY.cell 1 rfl
      go_wp2_with fail
      clear c_a0 c_a1 c_b0 c_b1 c_x0 c_x1 c_y0 c_y1
      refine (bp9 _ _ hv).mono ?_
      rintro e w44 ⟨q, rfl, hq, hs⟩
      replace hu := hu.below hs
      replace hv := hv.below hs
      replace hrF := hrF.below hs
      replace hy := hy.below hs
      replace hp := hp.below hs
      replace hA := hA.below hs
      replace hB := hB.below hs
      replace hXF := hXF.below hs
      replace hY := hY.below hs
      replace hb := hb.trans (hs.mono hb.size)
      clear hs
      have hlq := hq.len (P := Tryd.prog) 35 3 ⟨_, sliceI⟩
      rw [length_ints, permB_len okm.out] at hlq
      have c_a0 := hA.cell 0 rfl
      have c_a1 := hA.cell 1 rfl
      have c_b0 := hB.cell 0 rfl
      have c_b1 := hB.cell 1 rfl
      have c_x0 := hXF.cell 0 rfl
      have c_x1 := hXF.cell 1 rfl
      have c_y0 := hY.cell 0 rfl
      have c_y1 := hY.cell 1 rfl
      go_wp2_with fail
      clear c_a0 c_a1 c_b0 c_b1 c_x0 c_x1 c_y0 c_y1
      refine (bp9 _ _ hy).mono ?_
      rintro e w45 ⟨r, rfl, hr, hs⟩
      replace hu := hu.below hs
      replace hv := hv.below hs
      replace hrF := hrF.below hs
      replace hy := hy.below hs
      replace hp := hp.below hs
      replace hq := hq.below hs
      replace hA := hA.below hs
      replace hB := hB.below hs
      replace hXF := hXF.below hs
      replace hY := hY.below hs
      replace hb := hb.trans (hs.mono hb.size)
      clear hs
      have hlr := hr.len (P := Tryd.prog) 35 3 ⟨_, sliceI⟩
      rw [length_ints, permB_len oky.out] at hlr
      have c_a0 := hA.cell 0 rfl
      have c_a1 := hA.cell 1 rfl
      have c_b0 := hB.cell 0 rfl
      have c_b1 := hB.cell 1 rfl
      have c_x0 := hXF.cell 0 rfl
      have c_x1 := hXF.cell 1 rfl
      have c_y0 := hY.cell 0 rfl
      have c_y1 := hY.cell 1 rfl
      go_wp2_with fail
      clear c_a0 c_a1 c_b0 c_b1 c_x0 c_x1 c_y0 c_y1
      go_loopw [12] (fun i wr => ∃ k : Nat, k ≤ n ∧ i = .int .i64 k ∧ Below w45.heap.size w45 wr) (fun i _ => n - (intOf i).toNat)
      case atStart => exact ⟨0, by omega, rfl, Below.refl _ _⟩
      case round =>
      obtain ⟨k, hk, rfl, hbr⟩ := hrel
      by_cases hlt : k < n
      case pos =>
        obtain ⟨z0, z1⟩ := hPJ.out.1 k hlt
        have z2 := hPJ.out.2 k hlt
        have hi1 := hp.idx (P := Tryd.prog) 35 sliceI sizeI .i64 (k : Int) (by omega) (by rw [length_ints, permB_len okl.out]; omega)
        have hi2 := hr.idx (P := Tryd.prog) 35 sliceI sizeI .i64 (k : Int) (by omega) (by rw [length_ints, permB_len oky.out]; omega)
        simp only [Int.toNat_natCast] at hi1 hi2
        have hi3 := hq.idx (P := Tryd.prog) 35 sliceI sizeI .i64 (nth (permB n l) k) z0 (by rw [length_ints, permB_len okm.out]; omega)
        have c1 := (hp.below hbr).int (i := k) (by rw [permB_len okl.out]; exact hlt)
        have c2 := (hr.below hbr).int (i := k) (by rw [permB_len oky.out]; exact hlt)
        have c3 := (hq.below hbr).int (i := (nth (permB n l) k).toNat) (by rw [permB_len okm.out]; omega)
        rw [z2] at c2
        generalize nth (permB n l) k = pk at *
        generalize nth (permB n m) pk.toNat = qk at *
        have n1 : decide (pk < 0) = false := decide_eq_false (by omega)
        have n2 : ¬ pk < 0 := by omega
        have n3 : ¬ (n : Int) ≤ pk := by omega
        have n4 : decide ((n : Int) ≤ pk) = false := decide_eq_false n3
        have n5 : (qk != qk) = false := by simp
        clear z2
        replace hbr := hid hbr
        go_wp2_with fail
        go_quiet (fail)
        have hbq := hid (hbr.out.trans ((below_drewN (Below.refl _ wr) nq).mono hbr.out.size))
        go_wp2_with fail
        go_roundw
        case rel => exact ⟨k + 1, by omega, by go_num, hbq.out⟩
        case measure => simp [intOf] <;> omega
      case neg =>
      obtain rfl : n = k := by omega
      replace hu := hu.below hbr
      replace hv := hv.below hbr
      replace hrF := hrF.below hbr
      replace hy := hy.below hbr
      replace hp := hp.below hbr
      replace hq := hq.below hbr
      replace hr := hr.below hbr
      replace hA := hA.below hbr
      replace hB := hB.below hbr
      replace hXF := hXF.below hbr
      replace hY := hY.below hbr
      replace hb := hb.trans (hbr.mono hb.size)
      clear hbr hPJ
      have c_a0 := hA.cell 0 rfl
      have c_a1 := hA.cell 1 rfl
      have c_b0 := hB.cell 0 rfl
      have c_b1 := hB.cell 1 rfl
      have c_x0 := hXF.cell 0 rfl
      have c_x1 := hXF.cell 1 rfl
      have c_y0 := hY.cell 0 rfl
      have c_y1 := hY.cell 1 rfl
      have hT1 := hid (hT.out.below hb)
      go_wp2_with fail
      clear hlt hk hlp hlq hlr hp hq hr
      clear c_a0 c_a1 c_b0 c_b1 c_x0 c_x1 c_y0 c_y1
      refine (BraidTextI n _ l wr hu hT1.out).mono ?_
      rintro e w46 ⟨rfl, hs⟩
      replace hu := hu.below hs
      replace hv := hv.below hs
      replace hrF := hrF.below hs
      replace hy := hy.below hs
      replace hA := hA.below hs
      replace hB := hB.below hs
      replace hXF := hXF.below hs
      replace hY := hY.below hs
      replace hb := hb.trans (hs.mono hb.size)
      clear hs
      have hE1 := hid (hE.out.below hb)
      have hM1 := hid (hM.out.below hb)
      replace hT1 := hid (hT.out.below hb)
      have c_a0 := hA.cell 0 rfl
      have c_a1 := hA.cell 1 rfl
      have c_b0 := hB.cell 0 rfl
      have c_b1 := hB.cell 1 rfl
      have c_x0 := hXF.cell 0 rfl
      have c_x1 := hXF.cell 1 rfl
      have c_y0 := hY.cell 0 rfl
      have c_y1 := hY.cell 1 rfl
      go_wp2_with fail
      clear c_a0 c_a1 c_b0 c_b1 c_x0 c_x1 c_y0 c_y1
      refine (read9 okl.out _ hT1.out hE1.out hM1.out).mono ?_
      rintro e w47 ⟨z, rfl, hz, hs⟩
      replace hu := hu.below hs
      replace hv := hv.below hs
      replace hrF := hrF.below hs
      replace hy := hy.below hs
      replace hA := hA.below hs
      replace hB := hB.below hs
      replace hXF := hXF.below hs
      replace hY := hY.below hs
      replace hb := hb.trans (hs.mono hb.size)
      clear hs
      clear hT1 hE1 hM1
      obtain ⟨za, zn, zc, rfl⟩ : ∃ a n c, z = Value.slice a n c := by obtain ⟨a, c, e, -⟩ := hz.form; exact ⟨a, _, c, e⟩
      replace hu := hu.alloc (.cells #[.int .i64 n, .slice za zn zc] 40)
      replace hv := hv.alloc (.cells #[.int .i64 n, .slice za zn zc] 40)
      replace hrF := hrF.alloc (.cells #[.int .i64 n, .slice za zn zc] 40)
      replace hy := hy.alloc (.cells #[.int .i64 n, .slice za zn zc] 40)
      replace hz := hz.alloc (.cells #[.int .i64 n, .slice za zn zc] 40)
      replace hA := hA.alloc (.cells #[.int .i64 n, .slice za zn zc] 40)
      replace hB := hB.alloc (.cells #[.int .i64 n, .slice za zn zc] 40)
      replace hXF := hXF.alloc (.cells #[.int .i64 n, .slice za zn zc] 40)
      replace hY := hY.alloc (.cells #[.int .i64 n, .slice za zn zc] 40)
      have hZ := Bx.new w47 #[.int .i64 n, .slice za zn zc] 40
      replace hb := hb.alloc hb.size (.cells #[.int .i64 n, .slice za zn zc] 40)
      have c_a0 := hA.cell 0 rfl
      have c_a1 := hA.cell 1 rfl
      have c_b0 := hB.cell 0 rfl
      have c_b1 := hB.cell 1 rfl
      have c_x0 := hXF.cell 0 rfl
      have c_x1 := hXF.cell 1 rfl
      have c_y0 := hY.cell 0 rfl
      have c_y1 := hY.cell 1 rfl
      have c_z0 := hZ.cell 0 rfl
      have c_z1 := hZ.cell 1 rfl
      go_wp2_with fail
      clear c_a0 c_a1 c_b0 c_b1 c_x0 c_x1 c_y0 c_y1 c_z0 c_z1
      generalize (w47.alloc (.cells #[.int .i64 n, .slice za zn zc] 40)) = w48 at *
      refine (red9 oky.out _ _ hy).mono ?_
      rintro e w49 ⟨o, rfl, ho, hs⟩
      replace hu := hu.below hs
      replace hv := hv.below hs
      replace hrF := hrF.below hs
      replace hy := hy.below hs
      replace hz := hz.below hs
      replace hA := hA.below hs
      replace hB := hB.below hs
      replace hXF := hXF.below hs
      replace hY := hY.below hs
      replace hZ := hZ.below hs
      replace hb := hb.trans (hs.mono hb.size)
      clear hs
      obtain ⟨oa, on, oc, rfl⟩ : ∃ a n c, o = Value.slice a n c := by obtain ⟨a, c, e, -⟩ := ho.form; exact ⟨a, _, c, e⟩
      replace hu := hu.alloc (.cells #[.int .i64 n, .slice oa on oc] 40)
      replace hv := hv.alloc (.cells #[.int .i64 n, .slice oa on oc] 40)
      replace hrF := hrF.alloc (.cells #[.int .i64 n, .slice oa on oc] 40)
      replace hy := hy.alloc (.cells #[.int .i64 n, .slice oa on oc] 40)
      replace hz := hz.alloc (.cells #[.int .i64 n, .slice oa on oc] 40)
      replace ho := ho.alloc (.cells #[.int .i64 n, .slice oa on oc] 40)
      replace hA := hA.alloc (.cells #[.int .i64 n, .slice oa on oc] 40)
      replace hB := hB.alloc (.cells #[.int .i64 n, .slice oa on oc] 40)
      replace hXF := hXF.alloc (.cells #[.int .i64 n, .slice oa on oc] 40)
      replace hY := hY.alloc (.cells #[.int .i64 n, .slice oa on oc] 40)
      replace hZ := hZ.alloc (.cells #[.int .i64 n, .slice oa on oc] 40)
      have hO := Bx.new w49 #[.int .i64 n, .slice oa on oc] 40
      replace hb := hb.alloc hb.size (.cells #[.int .i64 n, .slice oa on oc] 40)
      have c_a0 := hA.cell 0 rfl
      have c_a1 := hA.cell 1 rfl
      have c_b0 := hB.cell 0 rfl
      have c_b1 := hB.cell 1 rfl
      have c_x0 := hXF.cell 0 rfl
      have c_x1 := hXF.cell 1 rfl
      have c_y0 := hY.cell 0 rfl
      have c_y1 := hY.cell 1 rfl
      have c_z0 := hZ.cell 0 rfl
      have c_z1 := hZ.cell 1 rfl
      have c_o0 := hO.cell 0 rfl
      have c_o1 := hO.cell 1 rfl
      go_wp2_with fail
      clear c_a0 c_a1 c_b0 c_b1 c_x0 c_x1 c_y0 c_y1 c_z0 c_z1 c_o0 c_o1
      generalize (w49.alloc (.cells #[.int .i64 n, .slice oa on oc] 40)) = w50 at *
      have okr := hid ((oL.out.app oM.out).red.ok (by omega) (by have := redW_len (l ++ m); rw [List.length_append, hun.out, hvn.out] at this; omega))
      have okmi := hid (oL.out.mir.ok (by omega) (by rw [List.length_map, hun.out]; omega))
      have hK := hid (fun (w' : World) (h : Below w50.heap.size w50 w') => (⟨(hZ.below h).cell 0 rfl, (hZ.below h).cell 1 rfl, (hA.below h).cell 0 rfl, (hA.below h).cell 1 rfl, (hO.below h).cell 0 rfl, (hO.below h).cell 1 rfl⟩ : w'.cell? ⟨w47.heap.size, 0, none⟩ = some (.int .i64 n) ∧ w'.cell? ⟨w47.heap.size, 1, none⟩ = some (.slice za zn zc) ∧ w'.cell? ⟨w1.heap.size, 0, none⟩ = some (.int .i64 n) ∧ w'.cell? ⟨w1.heap.size, 1, none⟩ = some (.slice ua un ue) ∧ w'.cell? ⟨w49.heap.size, 0, none⟩ = some (.int .i64 n) ∧ w'.cell? ⟨w49.heap.size, 1, none⟩ = some (.slice oa on oc)))
      have hbD : Below w50.heap.size w50 w50.drew := (Below.refl _ _).drew
      have hC1 := hid (fun (w' : World) (h : Below w50.heap.size w50 w') => calls_fromB (sb9 (n := n) _ _ w' (hz.below h) (hu.below h)) h)
      have hC2 := hid (fun (w' : World) (h : Below w50.heap.size w50 w') => (red9 okr.out _ w' (ho.below h)).mono fun e w'' ⟨x, h1, h2, h3⟩ => (⟨x, h1, by rw [red_red] at h2; exact h2, h.trans (h3.mono h.size)⟩ : ∃ x, e = Ending.returned (.agg #[.int .i64 n, x]) ∧ Reads w'' x (ints (redW (l ++ m))) ∧ Below w50.heap.size w50 w''))
      have hC3 := hid (fun (w' : World) (x : Value) (hx : Reads w' x (ints (redW (l ++ m)))) (h : Below w50.heap.size w50 w') => calls_fromB (sb9 (n := n) _ _ w' hx (ho.below h)) h)
      have hC4 := hid (fun (w' : World) (h : Below w50.heap.size w50 w') => (mir9 okl.out _ w' (hu.below h)).mono fun e w'' ⟨x, h1, h2, h3⟩ => (⟨x, h1, h2, h.trans (h3.mono h.size)⟩ : ∃ x, e = Ending.returned (.agg #[.int .i64 n, x]) ∧ Reads w'' x (ints (l.map (mirL n))) ∧ Below w50.heap.size w50 w''))
      have hC5 := hid (fun (w' : World) (x : Value) (hx : Reads w' x (ints (l.map (mirL n)))) (h : Below w50.heap.size w50 w') => (mir9 okmi.out _ w' hx).mono fun e w'' ⟨x, h1, h2, h3⟩ => (⟨x, h1, by rw [mir_all oL.out] at h2; exact h2, h.trans (h3.mono h.size)⟩ : ∃ x, e = Ending.returned (.agg #[.int .i64 n, x]) ∧ Reads w'' x (ints l) ∧ Below w50.heap.size w50 w''))
      have hC6 := hid (fun (w' : World) (x : Value) (hx : Reads w' x (ints l)) (h : Below w50.heap.size w50 w') => calls_fromB (sb9 (n := n) _ _ w' hx (hu.below h)) h)
      refine wp_region_noPanic ?_
      refine wp_region_held_drew (S := fun w' => Below w50.heap.size w50 w' ∧ w'.cell? ⟨w47.heap.size, 0, none⟩ = some (.int .i64 n) ∧ w'.cell? ⟨w47.heap.size, 1, none⟩ = some (.slice za zn zc) ∧ w'.cell? ⟨w1.heap.size, 0, none⟩ = some (.int .i64 n) ∧ w'.cell? ⟨w1.heap.size, 1, none⟩ = some (.slice ua un ue) ∧ w'.cell? ⟨w49.heap.size, 0, none⟩ = some (.int .i64 n) ∧ w'.cell? ⟨w49.heap.size, 1, none⟩ = some (.slice oa on oc)) (by kernel_rfl) ?_ (fun hHeld => ?_)
      focus (first | exact ⟨hbD, hK.out _ hbD⟩ | exact ⟨by assumption, hK.out _ (by assumption)⟩)
      refine wpAnyH_take (i := 0) (v := ?_) rfl (by kernel_rfl) (by kernel_rfl) (by kernel_rfl) (fun _ _ _ h => h) (Or.inl ⟨by kernel_rfl, ?_⟩) (by assumption) ?_; rotate_left; (focus ((intro w hSw; (try dsimp only at hSw); go_simp) <;> with_reducible rfl)); (try dsimp [Act.put]); (try simp only [List.setIfInBounds_toArray, List.set_cons_zero, List.set_cons_succ])
      refine wpAnyH_take (i := 1) (v := ?_) rfl (by kernel_rfl) (by kernel_rfl) (by kernel_rfl) (fun _ _ _ h => h) (Or.inl ⟨by kernel_rfl, ?_⟩) (by assumption) ?_; rotate_left; (focus ((intro w hSw; (try dsimp only at hSw); go_simp) <;> with_reducible rfl)); (try dsimp [Act.put]); (try simp only [List.setIfInBounds_toArray, List.set_cons_zero, List.set_cons_succ])
      refine wpAnyH_take (i := 2) (v := ?_) rfl (by kernel_rfl) (by kernel_rfl) (by kernel_rfl) (fun _ _ _ h => h) (Or.inl ⟨by kernel_rfl, ?_⟩) (by assumption) ?_; rotate_left; (focus ((intro w hSw; (try dsimp only at hSw); go_simp) <;> with_reducible rfl)); (try dsimp [Act.put]); (try simp only [List.setIfInBounds_toArray, List.set_cons_zero, List.set_cons_succ])
      refine wpAnyH_take (i := 3) (v := ?_) rfl (by kernel_rfl) (by kernel_rfl) (by kernel_rfl) (fun _ _ _ h => h) (Or.inl ⟨by kernel_rfl, ?_⟩) (by assumption) ?_; rotate_left; (focus ((intro w hSw; (try dsimp only at hSw); go_simp) <;> with_reducible rfl)); (try dsimp [Act.put]); (try simp only [List.setIfInBounds_toArray, List.set_cons_zero, List.set_cons_succ])
      refine wpAnyH_ready (rs := [4]) (by kernel_rfl) (by simp) ?_
      refine AllReadyH.cons (o := { dst := some 131, op := .call { callee := .value (.func 45), args := #[.tmp 129, .tmp 130], argTypes := #[40, 40] }, type := _, pos := _, after := _, guard := _ }) rfl (fun KK hKK => ?_) AllReadyH.nil
      refine step_callw2 (hC1.out _ (by first | assumption | exact hHeld.1)) (fun _ => by kernel_rfl) (by kernel_rfl) (.tmp 129) (.tmp 130) rfl rfl rfl ?_
      rintro e wa' ⟨rfl, hba⟩
      refine ⟨_, rfl, ?_⟩
      refine hKK.out _ _ ?_ (fun hHeld => ?_)
      focus (first | exact ⟨hbD, hK.out _ hbD⟩ | exact ⟨by assumption, hK.out _ (by assumption)⟩)
      clear hKK KK
      (try dsimp [Act.put]); (try simp only [List.setIfInBounds_toArray, List.set_cons_zero, List.set_cons_succ])
      refine wpAnyH_take (i := 5) (v := ?_) rfl (by kernel_rfl) (by kernel_rfl) (by kernel_rfl) (fun _ _ _ h => h) (Or.inl ⟨by kernel_rfl, ?_⟩) (by assumption) ?_; rotate_left; (focus ((intro w hSw; (try dsimp only at hSw); go_simp) <;> with_reducible rfl)); (try dsimp [Act.put]); (try simp only [List.setIfInBounds_toArray, List.set_cons_zero, List.set_cons_succ])
      refine wpAnyH_take (i := 6) (v := ?_) rfl (by kernel_rfl) (by kernel_rfl) (by kernel_rfl) (fun _ _ _ h => h) (Or.inl ⟨by kernel_rfl, ?_⟩) (by assumption) ?_; rotate_left; (focus ((intro w hSw; (try dsimp only at hSw); go_simp) <;> with_reducible rfl)); (try dsimp [Act.put]); (try simp only [List.setIfInBounds_toArray, List.set_cons_zero, List.set_cons_succ])
      refine wpAnyH_take (i := 7) (v := ?_) rfl (by kernel_rfl) (by kernel_rfl) (by kernel_rfl) (fun _ _ _ h => h) (Or.inl ⟨by kernel_rfl, ?_⟩) (by assumption) ?_; rotate_left; (focus ((intro w hSw; (try dsimp only at hSw); go_simp) <;> with_reducible rfl)); (try dsimp [Act.put]); (try simp only [List.setIfInBounds_toArray, List.set_cons_zero, List.set_cons_succ])
      refine wpAnyH_take (i := 9) (v := ?_) rfl (by kernel_rfl) (by kernel_rfl) (by kernel_rfl) (fun _ _ _ h => h) (Or.inl ⟨by kernel_rfl, ?_⟩) (by assumption) ?_; rotate_left; (focus ((intro w hSw; (try dsimp only at hSw); go_simp) <;> with_reducible rfl)); (try dsimp [Act.put]); (try simp only [List.setIfInBounds_toArray, List.set_cons_zero, List.set_cons_succ])
      refine wpAnyH_ready (rs := [8]) (by kernel_rfl) (by simp) ?_
      refine AllReadyH.cons (o := { dst := some 135, op := .call { callee := .value (.func 42), args := #[.tmp 134], argTypes := #[40] }, type := _, pos := _, after := _, guard := _ }) rfl (fun KK hKK => ?_) AllReadyH.nil
      refine step_callw (hC2.out _ (by first | assumption | exact hHeld.1)) (fun _ => by kernel_rfl) (by kernel_rfl) (.tmp 134) rfl rfl ?_
      rintro e wb' ⟨x8, rfl, hx8, hbb⟩
      refine ⟨_, rfl, ?_⟩
      refine hKK.out _ _ ?_ (fun hHeld => ?_)
      focus (first | exact ⟨hbD, hK.out _ hbD⟩ | exact ⟨by assumption, hK.out _ (by assumption)⟩)
      clear hKK KK
      (try dsimp [Act.put]); (try simp only [List.setIfInBounds_toArray, List.set_cons_zero, List.set_cons_succ])
      refine wpAnyH_ready (rs := [10]) (by kernel_rfl) (by simp) ?_
      refine AllReadyH.cons (o := { dst := some 137, op := .call { callee := .value (.func 45), args := #[.tmp 135, .tmp 136], argTypes := #[40, 40] }, type := _, pos := _, after := _, guard := _ }) rfl (fun KK hKK => ?_) AllReadyH.nil
      refine step_callw2 (hC3.out _ _ hx8 hbb) (fun _ => by kernel_rfl) (by kernel_rfl) (.tmp 135) (.tmp 136) rfl rfl rfl ?_
      rintro e wc' ⟨rfl, hbc⟩
      refine ⟨_, rfl, ?_⟩
      refine hKK.out _ _ ?_ (fun hHeld => ?_)
      focus (first | exact ⟨hbD, hK.out _ hbD⟩ | exact ⟨by assumption, hK.out _ (by assumption)⟩)
      clear hKK KK
      (try dsimp [Act.put]); (try simp only [List.setIfInBounds_toArray, List.set_cons_zero, List.set_cons_succ])
      refine wpAnyH_take (i := 11) (v := ?_) rfl (by kernel_rfl) (by kernel_rfl) (by kernel_rfl) (fun _ _ _ h => h) (Or.inl ⟨by kernel_rfl, ?_⟩) (by assumption) ?_; rotate_left; (focus ((intro w hSw; (try dsimp only at hSw); go_simp) <;> with_reducible rfl)); (try dsimp [Act.put]); (try simp only [List.setIfInBounds_toArray, List.set_cons_zero, List.set_cons_succ])
      refine wpAnyH_take (i := 12) (v := ?_) rfl (by kernel_rfl) (by kernel_rfl) (by kernel_rfl) (fun _ _ _ h => h) (Or.inl ⟨by kernel_rfl, ?_⟩) (by assumption) ?_; rotate_left; (focus ((intro w hSw; (try dsimp only at hSw); go_simp) <;> with_reducible rfl)); (try dsimp [Act.put]); (try simp only [List.setIfInBounds_toArray, List.set_cons_zero, List.set_cons_succ])
      refine wpAnyH_take (i := 13) (v := ?_) rfl (by kernel_rfl) (by kernel_rfl) (by kernel_rfl) (fun _ _ _ h => h) (Or.inl ⟨by kernel_rfl, ?_⟩) (by assumption) ?_; rotate_left; (focus ((intro w hSw; (try dsimp only at hSw); go_simp) <;> with_reducible rfl)); (try dsimp [Act.put]); (try simp only [List.setIfInBounds_toArray, List.set_cons_zero, List.set_cons_succ])
      refine wpAnyH_take (i := 16) (v := ?_) rfl (by kernel_rfl) (by kernel_rfl) (by kernel_rfl) (fun _ _ _ h => h) (Or.inl ⟨by kernel_rfl, ?_⟩) (by assumption) ?_; rotate_left; (focus ((intro w hSw; (try dsimp only at hSw); go_simp) <;> with_reducible rfl)); (try dsimp [Act.put]); (try simp only [List.setIfInBounds_toArray, List.set_cons_zero, List.set_cons_succ])
      refine wpAnyH_ready (rs := [14]) (by kernel_rfl) (by simp) ?_
      refine AllReadyH.cons (o := { dst := some 141, op := .call { callee := .value (.func 46), args := #[.tmp 140], argTypes := #[40] }, type := _, pos := _, after := _, guard := _ }) rfl (fun KK hKK => ?_) AllReadyH.nil
      refine step_callw (hC4.out _ hbc) (fun _ => by kernel_rfl) (by kernel_rfl) (.tmp 140) rfl rfl ?_
      rintro e wd' ⟨x9, rfl, hx9, hbd⟩
      refine ⟨_, rfl, ?_⟩
      refine hKK.out _ _ ?_ (fun hHeld => ?_)
      focus (first | exact ⟨hbD, hK.out _ hbD⟩ | exact ⟨by assumption, hK.out _ (by assumption)⟩)
      clear hKK KK
      (try dsimp [Act.put]); (try simp only [List.setIfInBounds_toArray, List.set_cons_zero, List.set_cons_succ])
      refine wpAnyH_ready (rs := [15]) (by kernel_rfl) (by simp) ?_
      refine AllReadyH.cons (o := { dst := some 142, op := .call { callee := .value (.func 46), args := #[.tmp 141], argTypes := #[40] }, type := _, pos := _, after := _, guard := _ }) rfl (fun KK hKK => ?_) AllReadyH.nil
      refine step_callw (hC5.out _ _ hx9 hbd) (fun _ => by kernel_rfl) (by kernel_rfl) (.tmp 141) rfl rfl ?_
      rintro e we' ⟨xa', rfl, hxa, hbe⟩
      refine ⟨_, rfl, ?_⟩
      refine hKK.out _ _ ?_ (fun hHeld => ?_)
      focus (first | exact ⟨hbD, hK.out _ hbD⟩ | exact ⟨by assumption, hK.out _ (by assumption)⟩)
      clear hKK KK
      (try dsimp [Act.put]); (try simp only [List.setIfInBounds_toArray, List.set_cons_zero, List.set_cons_succ])
      refine wpAnyH_ready (rs := [17]) (by kernel_rfl) (by simp) ?_
      refine AllReadyH.cons (o := { dst := some 144, op := .call { callee := .value (.func 45), args := #[.tmp 142, .tmp 143], argTypes := #[40, 40] }, type := _, pos := _, after := _, guard := _ }) rfl (fun KK hKK => ?_) AllReadyH.nil
      refine step_callw2 (hC6.out _ _ hxa hbe) (fun _ => by kernel_rfl) (by kernel_rfl) (.tmp 142) (.tmp 143) rfl rfl rfl ?_
      rintro e wf' ⟨rfl, hbf⟩
      refine ⟨_, rfl, ?_⟩
      refine hKK.out _ _ ?_ (fun hHeld => ?_)
      focus (first | exact ⟨hbD, hK.out _ hbD⟩ | exact ⟨by assumption, hK.out _ (by assumption)⟩)
      clear hKK KK
      (try dsimp [Act.put]); (try simp only [List.setIfInBounds_toArray, List.set_cons_zero, List.set_cons_succ])
      refine wpAnyH_take (i := 18) (v := ?_) rfl (by kernel_rfl) (by kernel_rfl) (by kernel_rfl) (fun _ _ _ h => h) (Or.inl ⟨by kernel_rfl, ?_⟩) (by assumption) ?_; rotate_left; (focus ((intro w hSw; (try dsimp only at hSw); go_simp) <;> with_reducible rfl)); (try dsimp [Act.put]); (try simp only [List.setIfInBounds_toArray, List.set_cons_zero, List.set_cons_succ])
      refine wpAnyH_take (i := 19) (v := ?_) rfl (by kernel_rfl) (by kernel_rfl) (by kernel_rfl) (fun _ _ _ h => h) (Or.inl ⟨by kernel_rfl, ?_⟩) (by assumption) ?_; rotate_left; (focus ((intro w hSw; (try dsimp only at hSw); go_simp) <;> with_reducible rfl)); (try dsimp [Act.put]); (try simp only [List.setIfInBounds_toArray, List.set_cons_zero, List.set_cons_succ])
      refine wpAnyH_done (by kernel_rfl) ?_ _
      refine NoPanic.normal ?_
      have hbZ := hid (hb.trans (hbf.mono hb.size))
      go_wp2_with fail
      go_ret
      exact ⟨rfl, hbZ.out⟩
    refine AllReadyH.cons rfl (fun KK hKK => ?_) AllReadyH.nil
    go_simp
    refine hKK.out _ _ ?_ (fun hHeld => ?_)
    focus (first | exact ⟨below_set2 hbj (by omega) _ _, hK.out _ (below_set2 hbj (by omega) _ _)⟩ | exact ⟨by assumption, hK.out _ (by assumption)⟩ | exact ⟨(by repeat (first | assumption | exact Below.refl _ _ | apply below_alloc_self | apply below_drewS)), hK.out _ (by repeat (first | assumption | exact Below.refl _ _ | apply below_alloc_self | apply below_drewS))⟩)
    clear hKK KK
    (try dsimp [Act.put]); (try simp only [List.setIfInBounds_toArray, List.set_cons_zero, List.set_cons_succ])
    refine wpAnyH_ready (rs := [3]) (by kernel_rfl) (by simp) ?_
    refine AllReadyH.cons (o := { dst := some 28, op := .call { callee := .value (.func 40), args := #[.tmp 25, .tmp 27], argTypes := #[40, 40] }, type := _, pos := _, after := _, guard := _ }) rfl (fun KK hKK => ?_) AllReadyH.nil
    refine step_call2 (hCJ.out _ _ (by first | exact hxr.out | exact hxr.out.below ((Below.refl _ _).alloc (Nat.le_refl _) _)) (by repeat (first | assumption | exact Below.refl _ _ | apply below_alloc_self | apply below_drewS))) (fun _ => by kernel_rfl) rfl (.tmp 25) (.tmp 27) rfl (by first | rfl | simp [Act.eval]) (by first | rfl | simp [Act.eval]) ?_
    rintro e wj ⟨xj, rfl, hxj, hsj⟩
    refine ⟨_, rfl, ?_⟩
    have hbj : Below w2.heap.size w2 wj := (show Below w2.heap.size w2 _ from (by repeat (first | assumption | exact Below.refl _ _ | apply below_alloc_self | apply below_drewS))).trans (hsj.mono (show Below w2.heap.size w2 _ from (by repeat (first | assumption | exact Below.refl _ _ | apply below_alloc_self | apply below_drewS))).size)
    have hzj := hsj.size
    try simp at hzj
    have hzj0 := hbj.size
    obtain ⟨ja, jn, je, rfl⟩ := own_lit' hxj
    first | (have hB9 : Bx wj w2.heap.size [.int .i64 0, .slice none 0 0] := hBi.below hsj; have q0 := hB9.cell 0 rfl; have q1 := hB9.cell 1 rfl; have qf0 := hB9.frozen 0; have qf1 := hB9.frozen 1) | (have hB9 : Bx wj wi.heap.size [.int .i64 0, .slice none 0 0] := (Bx.new wi #[.int .i64 0, .slice none 0 0] 40).below hsj; have q0 := hB9.cell 0 rfl; have q1 := hB9.cell 1 rfl; have qf0 := hB9.frozen 0; have qf1 := hB9.frozen 1) | skip
    refine hKK.out _ _ ?_ (fun hHeld => ?_)
    focus (first | exact ⟨below_set2 hbj (by omega) _ _, hK.out _ (below_set2 hbj (by omega) _ _)⟩ | exact ⟨by assumption, hK.out _ (by assumption)⟩ | exact ⟨(by repeat (first | assumption | exact Below.refl _ _ | apply below_alloc_self | apply below_drewS)), hK.out _ (by repeat (first | assumption | exact Below.refl _ _ | apply below_alloc_self | apply below_drewS))⟩)
    clear hKK KK
    (try dsimp [Act.put]); (try simp only [List.setIfInBounds_toArray, List.set_cons_zero, List.set_cons_succ])
    refine wpAnyH_take (i := 4) (v := ?_) rfl (by kernel_rfl) (by kernel_rfl) (by kernel_rfl) (fun _ _ _ h => h) (Or.inl ⟨by kernel_rfl, ?_⟩) (by assumption) ?_; rotate_left; (focus ((intro w hSw; (try dsimp only at hSw); go_simp) <;> with_reducible rfl)); (try dsimp [Act.put]); (try simp only [List.setIfInBounds_toArray, List.set_cons_zero, List.set_cons_succ])
    refine wpAnyH_take (i := 5) (v := ?_) rfl (by kernel_rfl) (by kernel_rfl) (by kernel_rfl) (fun _ _ _ h => h) (Or.inl ⟨by kernel_rfl, ?_⟩) (by assumption) ?_; rotate_left; (focus ((intro w hSw; (try dsimp only at hSw); go_simp) <;> with_reducible rfl)); (try dsimp [Act.put]); (try simp only [List.setIfInBounds_toArray, List.set_cons_zero, List.set_cons_succ])
    refine wpAnyH_take (i := 6) (v := ?_) rfl (by kernel_rfl) (by kernel_rfl) (by kernel_rfl) (fun _ _ _ h => h) (Or.inl ⟨by kernel_rfl, ?_⟩) (by assumption) ?_; rotate_left; (focus ((intro w hSw; (try dsimp only at hSw); go_simp) <;> with_reducible rfl)); (try dsimp [Act.put]); (try simp only [List.setIfInBounds_toArray, List.set_cons_zero, List.set_cons_succ])
    refine wpAnyH_ready (rs := [8]) (by kernel_rfl) (by simp) ?_
    refine AllReadyH.cons rfl (fun KK hKK => ?_) AllReadyH.nil
    go_simp
    refine hKK.out _ _ ?_ (fun hHeld => ?_)
    focus (first | exact ⟨below_set2 hbj (by omega) _ _, hK.out _ (below_set2 hbj (by omega) _ _)⟩ | exact ⟨by assumption, hK.out _ (by assumption)⟩ | exact ⟨(by repeat (first | assumption | exact Below.refl _ _ | apply below_alloc_self | apply below_drewS)), hK.out _ (by repeat (first | assumption | exact Below.refl _ _ | apply below_alloc_self | apply below_drewS))⟩)
    clear hKK KK
    (try dsimp [Act.put]); (try simp only [List.setIfInBounds_toArray, List.set_cons_zero, List.set_cons_succ])
    refine wpAnyH_take (i := 9) (v := ?_) rfl (by kernel_rfl) (by kernel_rfl) (by kernel_rfl) (fun _ _ _ h => h) (Or.inl ⟨by kernel_rfl, ?_⟩) (by assumption) ?_; rotate_left; (focus ((intro w hSw; (try dsimp only at hSw); go_simp) <;> with_reducible rfl)); (try dsimp [Act.put]); (try simp only [List.setIfInBounds_toArray, List.set_cons_zero, List.set_cons_succ])
    refine wpAnyH_done (by kernel_rfl) ?_ _
    refine NoPanic.normal ?_
    clear hHeld
    first
    | (have hXF : Bx ((wj.setCell ⟨w2.heap.size, 0, none⟩ (.int .i64 n)).setCell ⟨w2.heap.size, 1, none⟩ (.slice ja jn je)) (w2.heap.size) [.int .i64 n, .slice ja jn je] := (hB9.set 0 (.int .i64 n)).set 1 (.slice ja jn je)
       have hne : blk (.slice ja jn je) ≠ some (w2.heap.size) := fun e => by have := (hxj.blk_lt e).1; (try simp only [World.size_alloc] at this); omega
       have hrF := ((hxj.other (a := ⟨w2.heap.size, 0, none⟩) hne (.int .i64 n)).other (a := ⟨w2.heap.size, 1, none⟩) hne (.slice ja jn je)).reads
       have hbX := below_set2 (g := w2.heap.size) hbj (by omega) (.int .i64 n) (.slice ja jn je)
       clear q0 q1 qf0 qf1 hB9 hne hxj
       generalize ((wj.setCell ⟨w2.heap.size, 0, none⟩ (.int .i64 n)).setCell ⟨w2.heap.size, 1, none⟩ (.slice ja jn je)) = wX at *
       obtain ⟨gX, hgX⟩ : ∃ g, g = w2.heap.size := ⟨_, rfl⟩
       rw [← hgX] at hXF ⊢
       replace hgX := hid hgX)
    | (have hXF : Bx ((wj.setCell ⟨wi.heap.size, 0, none⟩ (.int .i64 n)).setCell ⟨wi.heap.size, 1, none⟩ (.slice ja jn je)) (wi.heap.size) [.int .i64 n, .slice ja jn je] := (hB9.set 0 (.int .i64 n)).set 1 (.slice ja jn je)
       have hne : blk (.slice ja jn je) ≠ some (wi.heap.size) := fun e => by have := (hxj.blk_lt e).1; (try simp only [World.size_alloc] at this); omega
       have hrF := ((hxj.other (a := ⟨wi.heap.size, 0, none⟩) hne (.int .i64 n)).other (a := ⟨wi.heap.size, 1, none⟩) hne (.slice ja jn je)).reads
       have hbX := below_set2 (g := wi.heap.size) hbj (by omega) (.int .i64 n) (.slice ja jn je)
       clear q0 q1 qf0 qf1 hB9 hne hxj
       generalize ((wj.setCell ⟨wi.heap.size, 0, none⟩ (.int .i64 n)).setCell ⟨wi.heap.size, 1, none⟩ (.slice ja jn je)) = wX at *
       obtain ⟨gX, hgX⟩ : ∃ g, g = wi.heap.size := ⟨_, rfl⟩
       rw [← hgX] at hXF ⊢
       replace hgX := hid hgX)
    | (try rw [alloc_store2]
       have hXF := Bx.new wj #[.int .i64 n, .slice ja jn je] 40
       have hrF := (own_alloc hxj (.cells #[.int .i64 n, .slice ja jn je] 40)).reads
       have hbX := below_alloc_self hbj (.cells #[.int .i64 n, .slice ja jn je] 40)
       clear hxj
       generalize wj.alloc (.cells #[.int .i64 n, .slice ja jn je] 40) = wX at *
       obtain ⟨gX, hgX⟩ : ∃ g, g = wj.heap.size := ⟨_, rfl⟩
       rw [← hgX] at hXF ⊢
       replace hgX := hid hgX)
    replace hu := hu.below hbX
    replace hv := hv.below hbX
    replace hA := hA.below hbX
    replace hB := hB.below hbX
    replace hb := hb.trans (hbX.mono hb.size)
    clear hbX hK hCI hCJ hS0
    have c_a0 := hA.cell 0 rfl
    have c_a1 := hA.cell 1 rfl
    have c_b0 := hB.cell 0 rfl
    have c_b1 := hB.cell 1 rfl
    have c_x0 := hXF.cell 0 rfl
    have c_x1 := hXF.cell 1 rfl
    go_wp2_with fail
    clear c_a0 c_a1 c_b0 c_b1 c_x0 c_x1
    refine (jn9 okl.out okm.out (by rw [hun.out, hvn.out]; omega) _ _ _ hu hv).mono ?_
    rintro e w41 ⟨y, rfl, hy, hs⟩
    replace hu := hu.below hs
    replace hv := hv.below hs
    replace hrF := hrF.below hs
    replace hA := hA.below hs
    replace hB := hB.below hs
    replace hXF := hXF.below hs
    replace hb := hb.trans (hs.mono hb.size)
    clear hs
    replace hy := hy.reads
    obtain ⟨ya, yn, yc, rfl⟩ : ∃ a n c, y = Value.slice a n c := by obtain ⟨a, c, e, -⟩ := hy.form; exact ⟨a, _, c, e⟩
    replace hu := hu.alloc (.cells #[.int .i64 n, .slice ya yn yc] 40)
    replace hv := hv.alloc (.cells #[.int .i64 n, .slice ya yn yc] 40)
    replace hrF := hrF.alloc (.cells #[.int .i64 n, .slice ya yn yc] 40)
    replace hy := hy.alloc (.cells #[.int .i64 n, .slice ya yn yc] 40)
    replace hA := hA.alloc (.cells #[.int .i64 n, .slice ya yn yc] 40)
    replace hB := hB.alloc (.cells #[.int .i64 n, .slice ya yn yc] 40)
    replace hXF := hXF.alloc (.cells #[.int .i64 n, .slice ya yn yc] 40)
    have hY := Bx.new w41 #[.int .i64 n, .slice ya yn yc] 40
    replace hb := hb.alloc hb.size (.cells #[.int .i64 n, .slice ya yn yc] 40)
    have c_a0 := hA.cell 0 rfl
    have c_a1 := hA.cell 1 rfl
    have c_b0 := hB.cell 0 rfl
    have c_b1 := hB.cell 1 rfl
    have c_x0 := hXF.cell 0 rfl
    have c_x1 := hXF.cell 1 rfl
    have c_y0 := hY.cell 0 rfl
    have c_y1 := hY.cell 1 rfl
    go_wp2_with fail
    clear c_a0 c_a1 c_b0 c_b1 c_x0 c_x1 c_y0 c_y1
    generalize (w41.alloc (.cells #[.int .i64 n, .slice ya yn yc] 40)) = w42 at *
    have hK := hid (fun (w' : World) (h : Below w42.heap.size w42 w') => (⟨(hXF.below h).cell 0 rfl, (hXF.below h).cell 1 rfl, (hY.below h).cell 0 rfl, (hY.below h).cell 1 rfl, (hA.below h).cell 0 rfl, (hA.below h).cell 1 rfl, (hB.below h).cell 0 rfl, (hB.below h).cell 1 rfl⟩ : w'.cell? ⟨gX, 0, none⟩ = some (.int .i64 n) ∧ w'.cell? ⟨gX, 1, none⟩ = some (.slice ja jn je) ∧ w'.cell? ⟨w41.heap.size, 0, none⟩ = some (.int .i64 n) ∧ w'.cell? ⟨w41.heap.size, 1, none⟩ = some (.slice ya yn yc) ∧ w'.cell? ⟨w1.heap.size, 0, none⟩ = some (.int .i64 n) ∧ w'.cell? ⟨w1.heap.size, 1, none⟩ = some (.slice ua un ue) ∧ w'.cell? ⟨(w1.heap.size + 1), 0, none⟩ = some (.int .i64 n) ∧ w'.cell? ⟨(w1.heap.size + 1), 1, none⟩ = some (.slice va vn ve)))
    have hbD : Below w42.heap.size w42 w42.drew := (Below.refl _ _).drew
    have hC1 := hid (fun (w' : World) (h : Below w42.heap.size w42 w') => (red0 okx.out (red_inv l) _ w' (hrF.below h)).mono fun e w'' ⟨a, c, h1, h2⟩ => (⟨a, c, h1, h.trans (h2.mono h.size)⟩ : ∃ a c, e = Ending.returned (.agg #[.int .i64 n, .slice a 0 c]) ∧ Below w42.heap.size w42 w''))
    obtain ⟨e1, he1⟩ : ∃ e1, expF n l = e1 := ⟨_, rfl⟩
    obtain ⟨e2, he2⟩ : ∃ e2, expF n m = e2 := ⟨_, rfl⟩
    have hb1 := exp_bd (n := n) (l := l) (by rw [hun.out]; omega)
    have hb2 := exp_bd (n := n) (l := m) (by rw [hvn.out]; omega)
    rw [he1] at hb1
    rw [he2] at hb2
    have hC2 := hid (fun (w' : World) (h : Below w42.heap.size w42 w') => calls_fromB (by have := expo_impl n _ _ w' (hy.below h); rw [exp_app okl.out okm.out oky.out, he1, he2] at this; exact this) h)
    have hC3 := hid (fun (w' : World) (h : Below w42.heap.size w42 w') => calls_fromB (by have := expo_impl n _ _ w' (hu.below h); rw [he1] at this; exact this) h)
    have hC4 := hid (fun (w' : World) (h : Below w42.heap.size w42 w') => calls_fromB (by have := expo_impl n _ _ w' (hv.below h); rw [he2] at this; exact this) h)
    replace he1 := hid he1
    replace he2 := hid he2
    have hwe := Go.IntWalk.i64_in (e1 + e2) (by omega)
    have hfd : ∀ (a : Option Addr) (c : Nat) (w : World), (Instr.field 40 (.agg #[.int .i64 n, .slice a 0 c]) 1).run Tryd.prog w = .ok (.slice a 0 c) w := fun _ _ _ => by kernel_rfl
    refine wp_region_noPanic ?_
    refine wp_region_held_drew (S := fun w' => Below w42.heap.size w42 w' ∧ w'.cell? ⟨gX, 0, none⟩ = some (.int .i64 n) ∧ w'.cell? ⟨gX, 1, none⟩ = some (.slice ja jn je) ∧ w'.cell? ⟨w41.heap.size, 0, none⟩ = some (.int .i64 n) ∧ w'.cell? ⟨w41.heap.size, 1, none⟩ = some (.slice ya yn yc) ∧ w'.cell? ⟨w1.heap.size, 0, none⟩ = some (.int .i64 n) ∧ w'.cell? ⟨w1.heap.size, 1, none⟩ = some (.slice ua un ue) ∧ w'.cell? ⟨(w1.heap.size + 1), 0, none⟩ = some (.int .i64 n) ∧ w'.cell? ⟨(w1.heap.size + 1), 1, none⟩ = some (.slice va vn ve)) (by kernel_rfl) ?_ (fun hHeld => ?_)
    focus (first | exact ⟨hbD, hK.out _ hbD⟩ | exact ⟨by assumption, hK.out _ (by assumption)⟩)
    refine wpAnyH_take (i := 0) (v := ?_) rfl (by kernel_rfl) (by kernel_rfl) (by kernel_rfl) (fun _ _ _ h => h) (Or.inl ⟨by kernel_rfl, ?_⟩) (by assumption) ?_; rotate_left; (focus ((intro w hSw; (try dsimp only at hSw); go_simp) <;> with_reducible rfl)); (try dsimp [Act.put]); (try simp only [List.setIfInBounds_toArray, List.set_cons_zero, List.set_cons_succ])
    refine wpAnyH_take (i := 1) (v := ?_) rfl (by kernel_rfl) (by kernel_rfl) (by kernel_rfl) (fun _ _ _ h => h) (Or.inl ⟨by kernel_rfl, ?_⟩) (by assumption) ?_; rotate_left; (focus ((intro w hSw; (try dsimp only at hSw); go_simp) <;> with_reducible rfl)); (try dsimp [Act.put]); (try simp only [List.setIfInBounds_toArray, List.set_cons_zero, List.set_cons_succ])
    refine wpAnyH_take (i := 2) (v := ?_) rfl (by kernel_rfl) (by kernel_rfl) (by kernel_rfl) (fun _ _ _ h => h) (Or.inl ⟨by kernel_rfl, ?_⟩) (by assumption) ?_; rotate_left; (focus ((intro w hSw; (try dsimp only at hSw); go_simp) <;> with_reducible rfl)); (try dsimp [Act.put]); (try simp only [List.setIfInBounds_toArray, List.set_cons_zero, List.set_cons_succ])
    refine wpAnyH_take (i := 3) (v := ?_) rfl (by kernel_rfl) (by kernel_rfl) (by kernel_rfl) (fun _ _ _ h => h) (Or.inl ⟨by kernel_rfl, ?_⟩) (by assumption) ?_; rotate_left; (focus ((intro w hSw; (try dsimp only at hSw); go_simp) <;> with_reducible rfl)); (try dsimp [Act.put]); (try simp only [List.setIfInBounds_toArray, List.set_cons_zero, List.set_cons_succ])
    refine wpAnyH_take (i := 4) (v := ?_) rfl (by kernel_rfl) (by kernel_rfl) (by kernel_rfl) (fun _ _ _ h => h) (Or.inl ⟨by kernel_rfl, ?_⟩) (by assumption) ?_; rotate_left; (focus ((intro w hSw; (try dsimp only at hSw); go_simp) <;> with_reducible rfl)); (try dsimp [Act.put]); (try simp only [List.setIfInBounds_toArray, List.set_cons_zero, List.set_cons_succ])
    refine wpAnyH_take (i := 5) (v := ?_) rfl (by kernel_rfl) (by kernel_rfl) (by kernel_rfl) (fun _ _ _ h => h) (Or.inl ⟨by kernel_rfl, ?_⟩) (by assumption) ?_; rotate_left; (focus ((intro w hSw; (try dsimp only at hSw); go_simp) <;> with_reducible rfl)); (try dsimp [Act.put]); (try simp only [List.setIfInBounds_toArray, List.set_cons_zero, List.set_cons_succ])
    refine wpAnyH_take (i := 6) (v := ?_) rfl (by kernel_rfl) (by kernel_rfl) (by kernel_rfl) (fun _ _ _ h => h) (Or.inl ⟨by kernel_rfl, ?_⟩) (by assumption) ?_; rotate_left; (focus ((intro w hSw; (try dsimp only at hSw); go_simp) <;> with_reducible rfl)); (try dsimp [Act.put]); (try simp only [List.setIfInBounds_toArray, List.set_cons_zero, List.set_cons_succ])
    refine wpAnyH_take (i := 7) (v := ?_) rfl (by kernel_rfl) (by kernel_rfl) (by kernel_rfl) (fun _ _ _ h => h) (Or.inl ⟨by kernel_rfl, ?_⟩) (by assumption) ?_; rotate_left; (focus ((intro w hSw; (try dsimp only at hSw); go_simp) <;> with_reducible rfl)); (try dsimp [Act.put]); (try simp only [List.setIfInBounds_toArray, List.set_cons_zero, List.set_cons_succ])
    refine wpAnyH_ready (rs := [8]) (by kernel_rfl) (by simp) ?_
    refine AllReadyH.cons (o := { dst := some 45, op := .call { callee := .value (.func 42), args := #[.tmp 44], argTypes := #[40] }, type := _, pos := _, after := _, guard := _ }) rfl (fun KK hKK => ?_) AllReadyH.nil
    refine step_callw (hC1.out _ (by first | assumption | exact hHeld.1)) (fun _ => by kernel_rfl) (by kernel_rfl) (.tmp 44) rfl rfl ?_
    rintro e wa ⟨ra, rc, rfl, hba⟩
    refine ⟨_, rfl, ?_⟩
    refine hKK.out _ _ ?_ (fun hHeld => ?_)
    focus (first | exact ⟨hbD, hK.out _ hbD⟩ | exact ⟨by assumption, hK.out _ (by assumption)⟩)
    clear hKK KK
    (try dsimp [Act.put]); (try simp only [List.setIfInBounds_toArray, List.set_cons_zero, List.set_cons_succ])
    refine wpAnyH_take (i := 9) (v := ?_) rfl (by kernel_rfl) (by kernel_rfl) (by kernel_rfl) (fun _ _ _ h => h) (Or.inl ⟨by kernel_rfl, ?_⟩) (by assumption) ?_; rotate_left; (focus ((intro w hSw; (try dsimp only at hSw); go_simp) <;> with_reducible rfl)); (try dsimp [Act.put]); (try simp only [List.setIfInBounds_toArray, List.set_cons_zero, List.set_cons_succ])
    refine wpAnyH_take (i := 10) (v := ?_) rfl (by kernel_rfl) (by kernel_rfl) (by kernel_rfl) (fun _ _ _ h => h) (Or.inl ⟨by kernel_rfl, ?_⟩) (by assumption) ?_; rotate_left; (focus ((intro w hSw; (try dsimp only at hSw); go_simp) <;> with_reducible rfl)); (try dsimp [Act.put]); (try simp only [List.setIfInBounds_toArray, List.set_cons_zero, List.set_cons_succ])
    refine wpAnyH_take (i := 11) (v := ?_) rfl (by kernel_rfl) (by kernel_rfl) (by kernel_rfl) (fun _ _ _ h => h) (Or.inl ⟨by kernel_rfl, ?_⟩) (by assumption) ?_; rotate_left; (focus ((intro w hSw; (try dsimp only at hSw); go_simp) <;> with_reducible rfl)); (try dsimp [Act.put]); (try simp only [List.setIfInBounds_toArray, List.set_cons_zero, List.set_cons_succ])
    refine wpAnyH_take (i := 12) (v := ?_) rfl (by kernel_rfl) (by kernel_rfl) (by kernel_rfl) (fun _ _ _ h => h) (Or.inl ⟨by kernel_rfl, ?_⟩) (by assumption) ?_; rotate_left; (focus ((intro w hSw; (try dsimp only at hSw); go_simp) <;> with_reducible rfl)); (try dsimp [Act.put]); (try simp only [List.setIfInBounds_toArray, List.set_cons_zero, List.set_cons_succ])
    refine wpAnyH_take (i := 13) (v := ?_) rfl (by kernel_rfl) (by kernel_rfl) (by kernel_rfl) (fun _ _ _ h => h) (Or.inl ⟨by kernel_rfl, ?_⟩) (by assumption) ?_; rotate_left; (focus ((intro w hSw; (try dsimp only at hSw); go_simp) <;> with_reducible rfl)); (try dsimp [Act.put]); (try simp only [List.setIfInBounds_toArray, List.set_cons_zero, List.set_cons_succ])
    refine wpAnyH_take (i := 14) (v := ?_) rfl (by kernel_rfl) (by kernel_rfl) (by kernel_rfl) (fun _ _ _ h => h) (Or.inl ⟨by kernel_rfl, ?_⟩) (by assumption) ?_; rotate_left; (focus ((intro w hSw; (try dsimp only at hSw); go_simp) <;> with_reducible rfl)); (try dsimp [Act.put]); (try simp only [List.setIfInBounds_toArray, List.set_cons_zero, List.set_cons_succ])
    refine wpAnyH_take (i := 16) (v := ?_) rfl (by kernel_rfl) (by kernel_rfl) (by kernel_rfl) (fun _ _ _ h => h) (Or.inl ⟨by kernel_rfl, ?_⟩) (by assumption) ?_; rotate_left; (focus ((intro w hSw; (try dsimp only at hSw); go_simp) <;> with_reducible rfl)); (try dsimp [Act.put]); (try simp only [List.setIfInBounds_toArray, List.set_cons_zero, List.set_cons_succ])
    refine wpAnyH_take (i := 18) (v := ?_) rfl (by kernel_rfl) (by kernel_rfl) (by kernel_rfl) (fun _ _ _ h => h) (Or.inl ⟨by kernel_rfl, ?_⟩) (by assumption) ?_; rotate_left; (focus ((intro w hSw; (try dsimp only at hSw); go_simp) <;> with_reducible rfl)); (try dsimp [Act.put]); (try simp only [List.setIfInBounds_toArray, List.set_cons_zero, List.set_cons_succ])
    refine wpAnyH_ready (rs := [15]) (by kernel_rfl) (by simp) ?_
    refine AllReadyH.cons (o := { dst := some 52, op := .call { callee := .value (.func 43), args := #[.tmp 51], argTypes := #[40] }, type := _, pos := _, after := _, guard := _ }) rfl (fun KK hKK => ?_) AllReadyH.nil
    refine step_callw (hC2.out _ (by first | assumption | exact hHeld.1)) (fun _ => by kernel_rfl) (by kernel_rfl) (.tmp 51) rfl rfl ?_
    rintro e wb ⟨rfl, hbb⟩
    refine ⟨_, rfl, ?_⟩
    refine hKK.out _ _ ?_ (fun hHeld => ?_)
    focus (first | exact ⟨hbD, hK.out _ hbD⟩ | exact ⟨by assumption, hK.out _ (by assumption)⟩)
    clear hKK KK
    (try dsimp [Act.put]); (try simp only [List.setIfInBounds_toArray, List.set_cons_zero, List.set_cons_succ])
    refine wpAnyH_ready (rs := [17]) (by kernel_rfl) (by simp) ?_
    refine AllReadyH.cons (o := { dst := some 54, op := .call { callee := .value (.func 43), args := #[.tmp 53], argTypes := #[40] }, type := _, pos := _, after := _, guard := _ }) rfl (fun KK hKK => ?_) AllReadyH.nil
    refine step_callw (hC3.out _ (by first | assumption | exact hHeld.1)) (fun _ => by kernel_rfl) (by kernel_rfl) (.tmp 53) rfl rfl ?_
    rintro e wc ⟨rfl, hbc⟩
    refine ⟨_, rfl, ?_⟩
    refine hKK.out _ _ ?_ (fun hHeld => ?_)
    focus (first | exact ⟨hbD, hK.out _ hbD⟩ | exact ⟨by assumption, hK.out _ (by assumption)⟩)
    clear hKK KK
    (try dsimp [Act.put]); (try simp only [List.setIfInBounds_toArray, List.set_cons_zero, List.set_cons_succ])
    refine wpAnyH_ready (rs := [19]) (by kernel_rfl) (by simp) ?_
    refine AllReadyH.cons (o := { dst := some 56, op := .call { callee := .value (.func 43), args := #[.tmp 55], argTypes := #[40] }, type := _, pos := _, after := _, guard := _ }) rfl (fun KK hKK => ?_) AllReadyH.nil
    refine step_callw (hC4.out _ (by first | assumption | exact hHeld.1)) (fun _ => by kernel_rfl) (by kernel_rfl) (.tmp 55) rfl rfl ?_
    rintro e wd ⟨rfl, hbd⟩
    refine ⟨_, rfl, ?_⟩
    refine hKK.out _ _ ?_ (fun hHeld => ?_)
    focus (first | exact ⟨hbD, hK.out _ hbD⟩ | exact ⟨by assumption, hK.out _ (by assumption)⟩)
    clear hKK KK
    (try dsimp [Act.put]); (try simp only [List.setIfInBounds_toArray, List.set_cons_zero, List.set_cons_succ])
    refine wpAnyH_take (i := 20) (v := ?_) rfl (by kernel_rfl) (by kernel_rfl) (by kernel_rfl) (fun _ _ _ h => h) (Or.inl ⟨by kernel_rfl, ?_⟩) (by assumption) ?_; rotate_left; (focus ((intro w hSw; (try dsimp only at hSw); go_simp) <;> with_reducible rfl)); (try dsimp [Act.put]); (try simp only [List.setIfInBounds_toArray, List.set_cons_zero, List.set_cons_succ])
    refine wpAnyH_take (i := 21) (v := ?_) rfl (by kernel_rfl) (by kernel_rfl) (by kernel_rfl) (fun _ _ _ h => h) (Or.inl ⟨by kernel_rfl, ?_⟩) (by assumption) ?_; rotate_left; (focus ((intro w hSw; (try dsimp only at hSw); go_simp) <;> with_reducible rfl)); (try dsimp [Act.put]); (try simp only [List.setIfInBounds_toArray, List.set_cons_zero, List.set_cons_succ])
    refine wpAnyH_take (i := 22) (v := ?_) rfl (by kernel_rfl) (by kernel_rfl) (by kernel_rfl) (fun _ _ _ h => h) (Or.inl ⟨by kernel_rfl, ?_⟩) (by assumption) ?_; rotate_left; (focus ((intro w hSw; (try dsimp only at hSw); go_simp) <;> with_reducible rfl)); (try dsimp [Act.put]); (try simp only [List.setIfInBounds_toArray, List.set_cons_zero, List.set_cons_succ])
    refine wpAnyH_done (by kernel_rfl) ?_ _
    refine NoPanic.normal ?_
    replace hu := hu.below hbd
    replace hv := hv.below hbd
    replace hrF := hrF.below hbd
    replace hy := hy.below hbd
    replace hA := hA.below hbd
    replace hB := hB.below hbd
    replace hXF := hXF.below hbd
    replace hY := hY.below hbd
    replace hb := hb.trans (hbd.mono hb.size)
    clear hHeld hbd hba hbb hbc hC1 hC2 hC3 hC4 hK hbD hwe
    have hPJ := hid (perm_join okl.out okm.out oky.out)
    have c_a0 := hA.cell 0 rfl
    have c_a1 := hA.cell 1 rfl
    have c_b0 := hB.cell 0 rfl
    have c_b1 := hB.cell 1 rfl
    have c_x0 := hXF.cell 0 rfl
    have c_x1 := hXF.cell 1 rfl
    have c_y0 := hY.cell 0 rfl
    have c_y1 := hY.cell 1 rfl
    go_wp2_with fail
    clear c_a0 c_a1 c_b0 c_b1 c_x0 c_x1 c_y0 c_y1
    refine (bp9 _ _ hu).mono ?_
    rintro e w43 ⟨p, rfl, hp, hs⟩
    replace hu := hu.below hs
    replace hv := hv.below hs
    replace hrF := hrF.below hs
    replace hy := hy.below hs
    replace hA := hA.below hs
    replace hB := hB.below hs
    replace hXF := hXF.below hs
    replace hY := hY.below hs
    replace hb := hb.trans (hs.mono hb.size)
    clear hs
    have hlp := hp.len (P := Tryd.prog) 35 3 ⟨_, sliceI⟩
    rw [length_ints, permB_len okl.out] at hlp
    have c_a0 := hA.cell 0 rfl
    have c_a1 := hA.cell 1 rfl
    have c_b0 := hB.cell 0 rfl
    have c_b1 := hB.cell 1 rfl
    have c_x0 := hXF.cell 0 rfl
    have c_x1 := hXF.cell 1 rfl
    have c_y0 := hY.cell 0 rfl
    have c_y1 := hY.cell 1 rfl
    go_wp2_with fail
    clear c_a0 c_a1 c_b0 c_b1 c_x0 c_x1 c_y0 c_y1
    refine (bp9 _ _ hv).mono ?_
    rintro e w44 ⟨q, rfl, hq, hs⟩
    replace hu := hu.below hs
    replace hv := hv.below hs
    replace hrF := hrF.below hs
    replace hy := hy.below hs
    replace hp := hp.below hs
    replace hA := hA.below hs
    replace hB := hB.below hs
    replace hXF := hXF.below hs
    replace hY := hY.below hs
    replace hb := hb.trans (hs.mono hb.size)
    clear hs
    have hlq := hq.len (P := Tryd.prog) 35 3 ⟨_, sliceI⟩
    rw [length_ints, permB_len okm.out] at hlq
    have c_a0 := hA.cell 0 rfl
    have c_a1 := hA.cell 1 rfl
    have c_b0 := hB.cell 0 rfl
    have c_b1 := hB.cell 1 rfl
    have c_x0 := hXF.cell 0 rfl
    have c_x1 := hXF.cell 1 rfl
    have c_y0 := hY.cell 0 rfl
    have c_y1 := hY.cell 1 rfl
    go_wp2_with fail
    clear c_a0 c_a1 c_b0 c_b1 c_x0 c_x1 c_y0 c_y1
    refine (bp9 _ _ hy).mono ?_
    rintro e w45 ⟨r, rfl, hr, hs⟩
    replace hu := hu.below hs
    replace hv := hv.below hs
    replace hrF := hrF.below hs
    replace hy := hy.below hs
    replace hp := hp.below hs
    replace hq := hq.below hs
    replace hA := hA.below hs
    replace hB := hB.below hs
    replace hXF := hXF.below hs
    replace hY := hY.below hs
    replace hb := hb.trans (hs.mono hb.size)
    clear hs
    have hlr := hr.len (P := Tryd.prog) 35 3 ⟨_, sliceI⟩
    rw [length_ints, permB_len oky.out] at hlr
    have c_a0 := hA.cell 0 rfl
    have c_a1 := hA.cell 1 rfl
    have c_b0 := hB.cell 0 rfl
    have c_b1 := hB.cell 1 rfl
    have c_x0 := hXF.cell 0 rfl
    have c_x1 := hXF.cell 1 rfl
    have c_y0 := hY.cell 0 rfl
    have c_y1 := hY.cell 1 rfl
    go_wp2_with fail
    clear c_a0 c_a1 c_b0 c_b1 c_x0 c_x1 c_y0 c_y1
    go_loopw [12] (fun i wr => ∃ k : Nat, k ≤ n ∧ i = .int .i64 k ∧ Below w45.heap.size w45 wr) (fun i _ => n - (intOf i).toNat)
    case atStart => exact ⟨0, by omega, rfl, Below.refl _ _⟩
    case round =>
    obtain ⟨k, hk, rfl, hbr⟩ := hrel
    by_cases hlt : k < n
    case pos =>
      obtain ⟨z0, z1⟩ := hPJ.out.1 k hlt
      have z2 := hPJ.out.2 k hlt
      have hi1 := hp.idx (P := Tryd.prog) 35 sliceI sizeI .i64 (k : Int) (by omega) (by rw [length_ints, permB_len okl.out]; omega)
      have hi2 := hr.idx (P := Tryd.prog) 35 sliceI sizeI .i64 (k : Int) (by omega) (by rw [length_ints, permB_len oky.out]; omega)
      simp only [Int.toNat_natCast] at hi1 hi2
      have hi3 := hq.idx (P := Tryd.prog) 35 sliceI sizeI .i64 (nth (permB n l) k) z0 (by rw [length_ints, permB_len okm.out]; omega)
      have c1 := (hp.below hbr).int (i := k) (by rw [permB_len okl.out]; exact hlt)
      have c2 := (hr.below hbr).int (i := k) (by rw [permB_len oky.out]; exact hlt)
      have c3 := (hq.below hbr).int (i := (nth (permB n l) k).toNat) (by rw [permB_len okm.out]; omega)
      rw [z2] at c2
      generalize nth (permB n l) k = pk at *
      generalize nth (permB n m) pk.toNat = qk at *
      have n1 : decide (pk < 0) = false := decide_eq_false (by omega)
      have n2 : ¬ pk < 0 := by omega
      have n3 : ¬ (n : Int) ≤ pk := by omega
      have n4 : decide ((n : Int) ≤ pk) = false := decide_eq_false n3
      have n5 : (qk != qk) = false := by simp
      clear z2
      replace hbr := hid hbr
      go_wp2_with fail
      go_quiet (fail)
      have hbq := hid (hbr.out.trans ((below_drewN (Below.refl _ wr) nq).mono hbr.out.size))
      go_wp2_with fail
      go_roundw
      case rel => exact ⟨k + 1, by omega, by go_num, hbq.out⟩
      case measure => simp [intOf] <;> omega
    case neg =>
    obtain rfl : n = k := by omega
    replace hu := hu.below hbr
    replace hv := hv.below hbr
    replace hrF := hrF.below hbr
    replace hy := hy.below hbr
    replace hp := hp.below hbr
    replace hq := hq.below hbr
    replace hr := hr.below hbr
    replace hA := hA.below hbr
    replace hB := hB.below hbr
    replace hXF := hXF.below hbr
    replace hY := hY.below hbr
    replace hb := hb.trans (hbr.mono hb.size)
    clear hbr hPJ
    have c_a0 := hA.cell 0 rfl
    have c_a1 := hA.cell 1 rfl
    have c_b0 := hB.cell 0 rfl
    have c_b1 := hB.cell 1 rfl
    have c_x0 := hXF.cell 0 rfl
    have c_x1 := hXF.cell 1 rfl
    have c_y0 := hY.cell 0 rfl
    have c_y1 := hY.cell 1 rfl
    have hT1 := hid (hT.out.below hb)
    go_wp2_with fail
    clear hlt hk hlp hlq hlr hp hq hr
    clear c_a0 c_a1 c_b0 c_b1 c_x0 c_x1 c_y0 c_y1
    refine (BraidTextI n _ l wr hu hT1.out).mono ?_
    rintro e w46 ⟨rfl, hs⟩
    replace hu := hu.below hs
    replace hv := hv.below hs
    replace hrF := hrF.below hs
    replace hy := hy.below hs
    replace hA := hA.below hs
    replace hB := hB.below hs
    replace hXF := hXF.below hs
    replace hY := hY.below hs
    replace hb := hb.trans (hs.mono hb.size)
    clear hs
    have hE1 := hid (hE.out.below hb)
    have hM1 := hid (hM.out.below hb)
    replace hT1 := hid (hT.out.below hb)
    have c_a0 := hA.cell 0 rfl
    have c_a1 := hA.cell 1 rfl
    have c_b0 := hB.cell 0 rfl
    have c_b1 := hB.cell 1 rfl
    have c_x0 := hXF.cell 0 rfl
    have c_x1 := hXF.cell 1 rfl
    have c_y0 := hY.cell 0 rfl
    have c_y1 := hY.cell 1 rfl
    go_wp2_with fail
    clear c_a0 c_a1 c_b0 c_b1 c_x0 c_x1 c_y0 c_y1
    refine (read9 okl.out _ hT1.out hE1.out hM1.out).mono ?_
    rintro e w47 ⟨z, rfl, hz, hs⟩
    replace hu := hu.below hs
    replace hv := hv.below hs
    replace hrF := hrF.below hs
    replace hy := hy.below hs
    replace hA := hA.below hs
    replace hB := hB.below hs
    replace hXF := hXF.below hs
    replace hY := hY.below hs
    replace hb := hb.trans (hs.mono hb.size)
    clear hs
    clear hT1 hE1 hM1
    obtain ⟨za, zn, zc, rfl⟩ : ∃ a n c, z = Value.slice a n c := by obtain ⟨a, c, e, -⟩ := hz.form; exact ⟨a, _, c, e⟩
    replace hu := hu.alloc (.cells #[.int .i64 n, .slice za zn zc] 40)
    replace hv := hv.alloc (.cells #[.int .i64 n, .slice za zn zc] 40)
    replace hrF := hrF.alloc (.cells #[.int .i64 n, .slice za zn zc] 40)
    replace hy := hy.alloc (.cells #[.int .i64 n, .slice za zn zc] 40)
    replace hz := hz.alloc (.cells #[.int .i64 n, .slice za zn zc] 40)
    replace hA := hA.alloc (.cells #[.int .i64 n, .slice za zn zc] 40)
    replace hB := hB.alloc (.cells #[.int .i64 n, .slice za zn zc] 40)
    replace hXF := hXF.alloc (.cells #[.int .i64 n, .slice za zn zc] 40)
    replace hY := hY.alloc (.cells #[.int .i64 n, .slice za zn zc] 40)
    have hZ := Bx.new w47 #[.int .i64 n, .slice za zn zc] 40
    replace hb := hb.alloc hb.size (.cells #[.int .i64 n, .slice za zn zc] 40)
    have c_a0 := hA.cell 0 rfl
    have c_a1 := hA.cell 1 rfl
    have c_b0 := hB.cell 0 rfl
    have c_b1 := hB.cell 1 rfl
    have c_x0 := hXF.cell 0 rfl
    have c_x1 := hXF.cell 1 rfl
    have c_y0 := hY.cell 0 rfl
    have c_y1 := hY.cell 1 rfl
    have c_z0 := hZ.cell 0 rfl
    have c_z1 := hZ.cell 1 rfl
    go_wp2_with fail
    clear c_a0 c_a1 c_b0 c_b1 c_x0 c_x1 c_y0 c_y1 c_z0 c_z1
    generalize (w47.alloc (.cells #[.int .i64 n, .slice za zn zc] 40)) = w48 at *
    refine (red9 oky.out _ _ hy).mono ?_
    rintro e w49 ⟨o, rfl, ho, hs⟩
    replace hu := hu.below hs
    replace hv := hv.below hs
    replace hrF := hrF.below hs
    replace hy := hy.below hs
    replace hz := hz.below hs
    replace hA := hA.below hs
    replace hB := hB.below hs
    replace hXF := hXF.below hs
    replace hY := hY.below hs
    replace hZ := hZ.below hs
    replace hb := hb.trans (hs.mono hb.size)
    clear hs
    obtain ⟨oa, on, oc, rfl⟩ : ∃ a n c, o = Value.slice a n c := by obtain ⟨a, c, e, -⟩ := ho.form; exact ⟨a, _, c, e⟩
    replace hu := hu.alloc (.cells #[.int .i64 n, .slice oa on oc] 40)
    replace hv := hv.alloc (.cells #[.int .i64 n, .slice oa on oc] 40)
    replace hrF := hrF.alloc (.cells #[.int .i64 n, .slice oa on oc] 40)
    replace hy := hy.alloc (.cells #[.int .i64 n, .slice oa on oc] 40)
    replace hz := hz.alloc (.cells #[.int .i64 n, .slice oa on oc] 40)
    replace ho := ho.alloc (.cells #[.int .i64 n, .slice oa on oc] 40)
    replace hA := hA.alloc (.cells #[.int .i64 n, .slice oa on oc] 40)
    replace hB := hB.alloc (.cells #[.int .i64 n, .slice oa on oc] 40)
    replace hXF := hXF.alloc (.cells #[.int .i64 n, .slice oa on oc] 40)
    replace hY := hY.alloc (.cells #[.int .i64 n, .slice oa on oc] 40)
    replace hZ := hZ.alloc (.cells #[.int .i64 n, .slice oa on oc] 40)
    have hO := Bx.new w49 #[.int .i64 n, .slice oa on oc] 40
    replace hb := hb.alloc hb.size (.cells #[.int .i64 n, .slice oa on oc] 40)
    have c_a0 := hA.cell 0 rfl
    have c_a1 := hA.cell 1 rfl
    have c_b0 := hB.cell 0 rfl
    have c_b1 := hB.cell 1 rfl
    have c_x0 := hXF.cell 0 rfl
    have c_x1 := hXF.cell 1 rfl
    have c_y0 := hY.cell 0 rfl
    have c_y1 := hY.cell 1 rfl
    have c_z0 := hZ.cell 0 rfl
    have c_z1 := hZ.cell 1 rfl
    have c_o0 := hO.cell 0 rfl
    have c_o1 := hO.cell 1 rfl
    go_wp2_with fail
    clear c_a0 c_a1 c_b0 c_b1 c_x0 c_x1 c_y0 c_y1 c_z0 c_z1 c_o0 c_o1
    generalize (w49.alloc (.cells #[.int .i64 n, .slice oa on oc] 40)) = w50 at *
    have okr := hid ((oL.out.app oM.out).red.ok (by omega) (by have := redW_len (l ++ m); rw [List.length_append, hun.out, hvn.out] at this; omega))
    have okmi := hid (oL.out.mir.ok (by omega) (by rw [List.length_map, hun.out]; omega))
    have hK := hid (fun (w' : World) (h : Below w50.heap.size w50 w') => (⟨(hZ.below h).cell 0 rfl, (hZ.below h).cell 1 rfl, (hA.below h).cell 0 rfl, (hA.below h).cell 1 rfl, (hO.below h).cell 0 rfl, (hO.below h).cell 1 rfl⟩ : w'.cell? ⟨w47.heap.size, 0, none⟩ = some (.int .i64 n) ∧ w'.cell? ⟨w47.heap.size, 1, none⟩ = some (.slice za zn zc) ∧ w'.cell? ⟨w1.heap.size, 0, none⟩ = some (.int .i64 n) ∧ w'.cell? ⟨w1.heap.size, 1, none⟩ = some (.slice ua un ue) ∧ w'.cell? ⟨w49.heap.size, 0, none⟩ = some (.int .i64 n) ∧ w'.cell? ⟨w49.heap.size, 1, none⟩ = some (.slice oa on oc)))
    have hbD : Below w50.heap.size w50 w50.drew := (Below.refl _ _).drew
    have hC1 := hid (fun (w' : World) (h : Below w50.heap.size w50 w') => calls_fromB (sb9 (n := n) _ _ w' (hz.below h) (hu.below h)) h)
    have hC2 := hid (fun (w' : World) (h : Below w50.heap.size w50 w') => (red9 okr.out _ w' (ho.below h)).mono fun e w'' ⟨x, h1, h2, h3⟩ => (⟨x, h1, by rw [red_red] at h2; exact h2, h.trans (h3.mono h.size)⟩ : ∃ x, e = Ending.returned (.agg #[.int .i64 n, x]) ∧ Reads w'' x (ints (redW (l ++ m))) ∧ Below w50.heap.size w50 w''))
    have hC3 := hid (fun (w' : World) (x : Value) (hx : Reads w' x (ints (redW (l ++ m)))) (h : Below w50.heap.size w50 w') => calls_fromB (sb9 (n := n) _ _ w' hx (ho.below h)) h)
    have hC4 := hid (fun (w' : World) (h : Below w50.heap.size w50 w') => (mir9 okl.out _ w' (hu.below h)).mono fun e w'' ⟨x, h1, h2, h3⟩ => (⟨x, h1, h2, h.trans (h3.mono h.size)⟩ : ∃ x, e = Ending.returned (.agg #[.int .i64 n, x]) ∧ Reads w'' x (ints (l.map (mirL n))) ∧ Below w50.heap.size w50 w''))
    have hC5 := hid (fun (w' : World) (x : Value) (hx : Reads w' x (ints (l.map (mirL n)))) (h : Below w50.heap.size w50 w') => (mir9 okmi.out _ w' hx).mono fun e w'' ⟨x, h1, h2, h3⟩ => (⟨x, h1, by rw [mir_all oL.out] at h2; exact h2, h.trans (h3.mono h.size)⟩ : ∃ x, e = Ending.returned (.agg #[.int .i64 n, x]) ∧ Reads w'' x (ints l) ∧ Below w50.heap.size w50 w''))
    have hC6 := hid (fun (w' : World) (x : Value) (hx : Reads w' x (ints l)) (h : Below w50.heap.size w50 w') => calls_fromB (sb9 (n := n) _ _ w' hx (hu.below h)) h)
    refine wp_region_noPanic ?_
    refine wp_region_held_drew (S := fun w' => Below w50.heap.size w50 w' ∧ w'.cell? ⟨w47.heap.size, 0, none⟩ = some (.int .i64 n) ∧ w'.cell? ⟨w47.heap.size, 1, none⟩ = some (.slice za zn zc) ∧ w'.cell? ⟨w1.heap.size, 0, none⟩ = some (.int .i64 n) ∧ w'.cell? ⟨w1.heap.size, 1, none⟩ = some (.slice ua un ue) ∧ w'.cell? ⟨w49.heap.size, 0, none⟩ = some (.int .i64 n) ∧ w'.cell? ⟨w49.heap.size, 1, none⟩ = some (.slice oa on oc)) (by kernel_rfl) ?_ (fun hHeld => ?_)
    focus (first | exact ⟨hbD, hK.out _ hbD⟩ | exact ⟨by assumption, hK.out _ (by assumption)⟩)
    refine wpAnyH_take (i := 0) (v := ?_) rfl (by kernel_rfl) (by kernel_rfl) (by kernel_rfl) (fun _ _ _ h => h) (Or.inl ⟨by kernel_rfl, ?_⟩) (by assumption) ?_; rotate_left; (focus ((intro w hSw; (try dsimp only at hSw); go_simp) <;> with_reducible rfl)); (try dsimp [Act.put]); (try simp only [List.setIfInBounds_toArray, List.set_cons_zero, List.set_cons_succ])
    refine wpAnyH_take (i := 1) (v := ?_) rfl (by kernel_rfl) (by kernel_rfl) (by kernel_rfl) (fun _ _ _ h => h) (Or.inl ⟨by kernel_rfl, ?_⟩) (by assumption) ?_; rotate_left; (focus ((intro w hSw; (try dsimp only at hSw); go_simp) <;> with_reducible rfl)); (try dsimp [Act.put]); (try simp only [List.setIfInBounds_toArray, List.set_cons_zero, List.set_cons_succ])
    refine wpAnyH_take (i := 2) (v := ?_) rfl (by kernel_rfl) (by kernel_rfl) (by kernel_rfl) (fun _ _ _ h => h) (Or.inl ⟨by kernel_rfl, ?_⟩) (by assumption) ?_; rotate_left; (focus ((intro w hSw; (try dsimp only at hSw); go_simp) <;> with_reducible rfl)); (try dsimp [Act.put]); (try simp only [List.setIfInBounds_toArray, List.set_cons_zero, List.set_cons_succ])
    refine wpAnyH_take (i := 3) (v := ?_) rfl (by kernel_rfl) (by kernel_rfl) (by kernel_rfl) (fun _ _ _ h => h) (Or.inl ⟨by kernel_rfl, ?_⟩) (by assumption) ?_; rotate_left; (focus ((intro w hSw; (try dsimp only at hSw); go_simp) <;> with_reducible rfl)); (try dsimp [Act.put]); (try simp only [List.setIfInBounds_toArray, List.set_cons_zero, List.set_cons_succ])
    refine wpAnyH_ready (rs := [4]) (by kernel_rfl) (by simp) ?_
    refine AllReadyH.cons (o := { dst := some 131, op := .call { callee := .value (.func 45), args := #[.tmp 129, .tmp 130], argTypes := #[40, 40] }, type := _, pos := _, after := _, guard := _ }) rfl (fun KK hKK => ?_) AllReadyH.nil
    refine step_callw2 (hC1.out _ (by first | assumption | exact hHeld.1)) (fun _ => by kernel_rfl) (by kernel_rfl) (.tmp 129) (.tmp 130) rfl rfl rfl ?_
    rintro e wa' ⟨rfl, hba⟩
    refine ⟨_, rfl, ?_⟩
    refine hKK.out _ _ ?_ (fun hHeld => ?_)
    focus (first | exact ⟨hbD, hK.out _ hbD⟩ | exact ⟨by assumption, hK.out _ (by assumption)⟩)
    clear hKK KK
    (try dsimp [Act.put]); (try simp only [List.setIfInBounds_toArray, List.set_cons_zero, List.set_cons_succ])
    refine wpAnyH_take (i := 5) (v := ?_) rfl (by kernel_rfl) (by kernel_rfl) (by kernel_rfl) (fun _ _ _ h => h) (Or.inl ⟨by kernel_rfl, ?_⟩) (by assumption) ?_; rotate_left; (focus ((intro w hSw; (try dsimp only at hSw); go_simp) <;> with_reducible rfl)); (try dsimp [Act.put]); (try simp only [List.setIfInBounds_toArray, List.set_cons_zero, List.set_cons_succ])
    refine wpAnyH_take (i := 6) (v := ?_) rfl (by kernel_rfl) (by kernel_rfl) (by kernel_rfl) (fun _ _ _ h => h) (Or.inl ⟨by kernel_rfl, ?_⟩) (by assumption) ?_; rotate_left; (focus ((intro w hSw; (try dsimp only at hSw); go_simp) <;> with_reducible rfl)); (try dsimp [Act.put]); (try simp only [List.setIfInBounds_toArray, List.set_cons_zero, List.set_cons_succ])
    refine wpAnyH_take (i := 7) (v := ?_) rfl (by kernel_rfl) (by kernel_rfl) (by kernel_rfl) (fun _ _ _ h => h) (Or.inl ⟨by kernel_rfl, ?_⟩) (by assumption) ?_; rotate_left; (focus ((intro w hSw; (try dsimp only at hSw); go_simp) <;> with_reducible rfl)); (try dsimp [Act.put]); (try simp only [List.setIfInBounds_toArray, List.set_cons_zero, List.set_cons_succ])
    refine wpAnyH_take (i := 9) (v := ?_) rfl (by kernel_rfl) (by kernel_rfl) (by kernel_rfl) (fun _ _ _ h => h) (Or.inl ⟨by kernel_rfl, ?_⟩) (by assumption) ?_; rotate_left; (focus ((intro w hSw; (try dsimp only at hSw); go_simp) <;> with_reducible rfl)); (try dsimp [Act.put]); (try simp only [List.setIfInBounds_toArray, List.set_cons_zero, List.set_cons_succ])
    refine wpAnyH_ready (rs := [8]) (by kernel_rfl) (by simp) ?_
    refine AllReadyH.cons (o := { dst := some 135, op := .call { callee := .value (.func 42), args := #[.tmp 134], argTypes := #[40] }, type := _, pos := _, after := _, guard := _ }) rfl (fun KK hKK => ?_) AllReadyH.nil
    refine step_callw (hC2.out _ (by first | assumption | exact hHeld.1)) (fun _ => by kernel_rfl) (by kernel_rfl) (.tmp 134) rfl rfl ?_
    rintro e wb' ⟨x8, rfl, hx8, hbb⟩
    refine ⟨_, rfl, ?_⟩
    refine hKK.out _ _ ?_ (fun hHeld => ?_)
    focus (first | exact ⟨hbD, hK.out _ hbD⟩ | exact ⟨by assumption, hK.out _ (by assumption)⟩)
    clear hKK KK
    (try dsimp [Act.put]); (try simp only [List.setIfInBounds_toArray, List.set_cons_zero, List.set_cons_succ])
    refine wpAnyH_ready (rs := [10]) (by kernel_rfl) (by simp) ?_
    refine AllReadyH.cons (o := { dst := some 137, op := .call { callee := .value (.func 45), args := #[.tmp 135, .tmp 136], argTypes := #[40, 40] }, type := _, pos := _, after := _, guard := _ }) rfl (fun KK hKK => ?_) AllReadyH.nil
    refine step_callw2 (hC3.out _ _ hx8 hbb) (fun _ => by kernel_rfl) (by kernel_rfl) (.tmp 135) (.tmp 136) rfl rfl rfl ?_
    rintro e wc' ⟨rfl, hbc⟩
    refine ⟨_, rfl, ?_⟩
    refine hKK.out _ _ ?_ (fun hHeld => ?_)
    focus (first | exact ⟨hbD, hK.out _ hbD⟩ | exact ⟨by assumption, hK.out _ (by assumption)⟩)
    clear hKK KK
    (try dsimp [Act.put]); (try simp only [List.setIfInBounds_toArray, List.set_cons_zero, List.set_cons_succ])
    refine wpAnyH_take (i := 11) (v := ?_) rfl (by kernel_rfl) (by kernel_rfl) (by kernel_rfl) (fun _ _ _ h => h) (Or.inl ⟨by kernel_rfl, ?_⟩) (by assumption) ?_; rotate_left; (focus ((intro w hSw; (try dsimp only at hSw); go_simp) <;> with_reducible rfl)); (try dsimp [Act.put]); (try simp only [List.setIfInBounds_toArray, List.set_cons_zero, List.set_cons_succ])
    refine wpAnyH_take (i := 12) (v := ?_) rfl (by kernel_rfl) (by kernel_rfl) (by kernel_rfl) (fun _ _ _ h => h) (Or.inl ⟨by kernel_rfl, ?_⟩) (by assumption) ?_; rotate_left; (focus ((intro w hSw; (try dsimp only at hSw); go_simp) <;> with_reducible rfl)); (try dsimp [Act.put]); (try simp only [List.setIfInBounds_toArray, List.set_cons_zero, List.set_cons_succ])
    refine wpAnyH_take (i := 13) (v := ?_) rfl (by kernel_rfl) (by kernel_rfl) (by kernel_rfl) (fun _ _ _ h => h) (Or.inl ⟨by kernel_rfl, ?_⟩) (by assumption) ?_; rotate_left; (focus ((intro w hSw; (try dsimp only at hSw); go_simp) <;> with_reducible rfl)); (try dsimp [Act.put]); (try simp only [List.setIfInBounds_toArray, List.set_cons_zero, List.set_cons_succ])
    refine wpAnyH_take (i := 16) (v := ?_) rfl (by kernel_rfl) (by kernel_rfl) (by kernel_rfl) (fun _ _ _ h => h) (Or.inl ⟨by kernel_rfl, ?_⟩) (by assumption) ?_; rotate_left; (focus ((intro w hSw; (try dsimp only at hSw); go_simp) <;> with_reducible rfl)); (try dsimp [Act.put]); (try simp only [List.setIfInBounds_toArray, List.set_cons_zero, List.set_cons_succ])
    refine wpAnyH_ready (rs := [14]) (by kernel_rfl) (by simp) ?_
    refine AllReadyH.cons (o := { dst := some 141, op := .call { callee := .value (.func 46), args := #[.tmp 140], argTypes := #[40] }, type := _, pos := _, after := _, guard := _ }) rfl (fun KK hKK => ?_) AllReadyH.nil
    refine step_callw (hC4.out _ hbc) (fun _ => by kernel_rfl) (by kernel_rfl) (.tmp 140) rfl rfl ?_
    rintro e wd' ⟨x9, rfl, hx9, hbd⟩
    refine ⟨_, rfl, ?_⟩
    refine hKK.out _ _ ?_ (fun hHeld => ?_)
    focus (first | exact ⟨hbD, hK.out _ hbD⟩ | exact ⟨by assumption, hK.out _ (by assumption)⟩)
    clear hKK KK
    (try dsimp [Act.put]); (try simp only [List.setIfInBounds_toArray, List.set_cons_zero, List.set_cons_succ])
    refine wpAnyH_ready (rs := [15]) (by kernel_rfl) (by simp) ?_
    refine AllReadyH.cons (o := { dst := some 142, op := .call { callee := .value (.func 46), args := #[.tmp 141], argTypes := #[40] }, type := _, pos := _, after := _, guard := _ }) rfl (fun KK hKK => ?_) AllReadyH.nil
    refine step_callw (hC5.out _ _ hx9 hbd) (fun _ => by kernel_rfl) (by kernel_rfl) (.tmp 141) rfl rfl ?_
    rintro e we' ⟨xa', rfl, hxa, hbe⟩
    refine ⟨_, rfl, ?_⟩
    refine hKK.out _ _ ?_ (fun hHeld => ?_)
    focus (first | exact ⟨hbD, hK.out _ hbD⟩ | exact ⟨by assumption, hK.out _ (by assumption)⟩)
    clear hKK KK
    (try dsimp [Act.put]); (try simp only [List.setIfInBounds_toArray, List.set_cons_zero, List.set_cons_succ])
    refine wpAnyH_ready (rs := [17]) (by kernel_rfl) (by simp) ?_
    refine AllReadyH.cons (o := { dst := some 144, op := .call { callee := .value (.func 45), args := #[.tmp 142, .tmp 143], argTypes := #[40, 40] }, type := _, pos := _, after := _, guard := _ }) rfl (fun KK hKK => ?_) AllReadyH.nil
    refine step_callw2 (hC6.out _ _ hxa hbe) (fun _ => by kernel_rfl) (by kernel_rfl) (.tmp 142) (.tmp 143) rfl rfl rfl ?_
    rintro e wf' ⟨rfl, hbf⟩
    refine ⟨_, rfl, ?_⟩
    refine hKK.out _ _ ?_ (fun hHeld => ?_)
    focus (first | exact ⟨hbD, hK.out _ hbD⟩ | exact ⟨by assumption, hK.out _ (by assumption)⟩)
    clear hKK KK
    (try dsimp [Act.put]); (try simp only [List.setIfInBounds_toArray, List.set_cons_zero, List.set_cons_succ])
    refine wpAnyH_take (i := 18) (v := ?_) rfl (by kernel_rfl) (by kernel_rfl) (by kernel_rfl) (fun _ _ _ h => h) (Or.inl ⟨by kernel_rfl, ?_⟩) (by assumption) ?_; rotate_left; (focus ((intro w hSw; (try dsimp only at hSw); go_simp) <;> with_reducible rfl)); (try dsimp [Act.put]); (try simp only [List.setIfInBounds_toArray, List.set_cons_zero, List.set_cons_succ])
    refine wpAnyH_take (i := 19) (v := ?_) rfl (by kernel_rfl) (by kernel_rfl) (by kernel_rfl) (fun _ _ _ h => h) (Or.inl ⟨by kernel_rfl, ?_⟩) (by assumption) ?_; rotate_left; (focus ((intro w hSw; (try dsimp only at hSw); go_simp) <;> with_reducible rfl)); (try dsimp [Act.put]); (try simp only [List.setIfInBounds_toArray, List.set_cons_zero, List.set_cons_succ])
    refine wpAnyH_done (by kernel_rfl) ?_ _
    refine NoPanic.normal ?_
    have hbZ := hid (hb.trans (hbf.mono hb.size))
    go_wp2_with fail
    go_ret
    exact ⟨rfl, hbZ.out⟩
  refine AllReadyH.cons rfl (fun KK hKK => ?_) AllReadyH.nil
  go_simp
  refine hKK.out _ _ ?_ (fun hHeld => ?_)
  focus (first | exact ⟨below_set2 hbj (by omega) _ _, hK.out _ (below_set2 hbj (by omega) _ _)⟩ | exact ⟨by assumption, hK.out _ (by assumption)⟩ | exact ⟨(by repeat (first | assumption | exact Below.refl _ _ | apply below_alloc_self | apply below_drewS)), hK.out _ (by repeat (first | assumption | exact Below.refl _ _ | apply below_alloc_self | apply below_drewS))⟩)
  clear hKK KK
  (try dsimp [Act.put]); (try simp only [List.setIfInBounds_toArray, List.set_cons_zero, List.set_cons_succ])
  refine wpAnyH_ready (rs := [2]) (by kernel_rfl) (by simp) ?_
  refine AllReadyH.cons (o := { dst := some 27, op := .call { callee := .value (.func 41), args := #[.tmp 26], argTypes := #[40] }, type := _, pos := _, after := _, guard := _ }) rfl (fun KK hKK => ?_) AllReadyH.nil
  refine step_call (hCI.out _ (by repeat (first | assumption | exact Below.refl _ _ | apply below_alloc_self | apply below_drewS))) (fun _ => by kernel_rfl) rfl (.tmp 26) rfl (by first | rfl | simp [Act.eval]) ?_
  rintro e wi ⟨xi, rfl, hxi, hsi⟩
  refine ⟨_, rfl, ?_⟩
  have hbi : Below w2.heap.size w2 wi := (show Below w2.heap.size w2 _ from (by repeat (first | assumption | exact Below.refl _ _ | apply below_alloc_self | apply below_drewS))).trans (hsi.mono (show Below w2.heap.size w2 _ from (by repeat (first | assumption | exact Below.refl _ _ | apply below_alloc_self | apply below_drewS))).size)
  have hzi := hbi.size
  have hzi2 := hsi.size
  try simp at hzi2
  obtain ⟨ia, iN, ie, rfl⟩ := own_lit' hxi
  have hxr := hid hxi.reads
  first | (have hBi : Bx wi w2.heap.size [.int .i64 0, .slice none 0 0] := ((Bx.new w2 #[.int .i64 0, .slice none 0 0] 40).drew).below hsi) | skip
  refine hKK.out _ _ ?_ (fun hHeld => ?_)
  focus (first | exact ⟨below_set2 hbj (by omega) _ _, hK.out _ (below_set2 hbj (by omega) _ _)⟩ | exact ⟨by assumption, hK.out _ (by assumption)⟩ | exact ⟨(by repeat (first | assumption | exact Below.refl _ _ | apply below_alloc_self | apply below_drewS)), hK.out _ (by repeat (first | assumption | exact Below.refl _ _ | apply below_alloc_self | apply below_drewS))⟩)
  clear hKK KK
  (try dsimp [Act.put]); (try simp only [List.setIfInBounds_toArray, List.set_cons_zero, List.set_cons_succ])
  refine wpAnyH_ready (rs := [3]) (by kernel_rfl) (by simp) ?_
  refine AllReadyH.cons (o := { dst := some 28, op := .call { callee := .value (.func 40), args := #[.tmp 25, .tmp 27], argTypes := #[40, 40] }, type := _, pos := _, after := _, guard := _ }) rfl (fun KK hKK => ?_) AllReadyH.nil
  refine step_call2 (hCJ.out _ _ (by first | exact hxr.out | exact hxr.out.below ((Below.refl _ _).alloc (Nat.le_refl _) _)) (by repeat (first | assumption | exact Below.refl _ _ | apply below_alloc_self | apply below_drewS))) (fun _ => by kernel_rfl) rfl (.tmp 25) (.tmp 27) rfl (by first | rfl | simp [Act.eval]) (by first | rfl | simp [Act.eval]) ?_
  rintro e wj ⟨xj, rfl, hxj, hsj⟩
  refine ⟨_, rfl, ?_⟩
  have hbj : Below w2.heap.size w2 wj := (show Below w2.heap.size w2 _ from (by repeat (first | assumption | exact Below.refl _ _ | apply below_alloc_self | apply below_drewS))).trans (hsj.mono (show Below w2.heap.size w2 _ from (by repeat (first | assumption | exact Below.refl _ _ | apply below_alloc_self | apply below_drewS))).size)
  have hzj := hsj.size
  try simp at hzj
  have hzj0 := hbj.size
  obtain ⟨ja, jn, je, rfl⟩ := own_lit' hxj
  first | (have hB9 : Bx wj w2.heap.size [.int .i64 0, .slice none 0 0] := hBi.below hsj; have q0 := hB9.cell 0 rfl; have q1 := hB9.cell 1 rfl; have qf0 := hB9.frozen 0; have qf1 := hB9.frozen 1) | (have hB9 : Bx wj wi.heap.size [.int .i64 0, .slice none 0 0] := (Bx.new wi #[.int .i64 0, .slice none 0 0] 40).below hsj; have q0 := hB9.cell 0 rfl; have q1 := hB9.cell 1 rfl; have qf0 := hB9.frozen 0; have qf1 := hB9.frozen 1) | skip
  refine hKK.out _ _ ?_ (fun hHeld => ?_)
  focus (first | exact ⟨below_set2 hbj (by omega) _ _, hK.out _ (below_set2 hbj (by omega) _ _)⟩ | exact ⟨by assumption, hK.out _ (by assumption)⟩ | exact ⟨(by repeat (first | assumption | exact Below.refl _ _ | apply below_alloc_self | apply below_drewS)), hK.out _ (by repeat (first | assumption | exact Below.refl _ _ | apply below_alloc_self | apply below_drewS))⟩)
  clear hKK KK
  (try dsimp [Act.put]); (try simp only [List.setIfInBounds_toArray, List.set_cons_zero, List.set_cons_succ])
  refine wpAnyH_take (i := 4) (v := ?_) rfl (by kernel_rfl) (by kernel_rfl) (by kernel_rfl) (fun _ _ _ h => h) (Or.inl ⟨by kernel_rfl, ?_⟩) (by assumption) ?_; rotate_left; (focus ((intro w hSw; (try dsimp only at hSw); go_simp) <;> with_reducible rfl)); (try dsimp [Act.put]); (try simp only [List.setIfInBounds_toArray, List.set_cons_zero, List.set_cons_succ])
  refine wpAnyH_take (i := 5) (v := ?_) rfl (by kernel_rfl) (by kernel_rfl) (by kernel_rfl) (fun _ _ _ h => h) (Or.inl ⟨by kernel_rfl, ?_⟩) (by assumption) ?_; rotate_left; (focus ((intro w hSw; (try dsimp only at hSw); go_simp) <;> with_reducible rfl)); (try dsimp [Act.put]); (try simp only [List.setIfInBounds_toArray, List.set_cons_zero, List.set_cons_succ])
  refine wpAnyH_take (i := 6) (v := ?_) rfl (by kernel_rfl) (by kernel_rfl) (by kernel_rfl) (fun _ _ _ h => h) (Or.inl ⟨by kernel_rfl, ?_⟩) (by assumption) ?_; rotate_left; (focus ((intro w hSw; (try dsimp only at hSw); go_simp) <;> with_reducible rfl)); (try dsimp [Act.put]); (try simp only [List.setIfInBounds_toArray, List.set_cons_zero, List.set_cons_succ])
  refine wpAnyH_ready (rs := [8]) (by kernel_rfl) (by simp) ?_
  refine AllReadyH.cons rfl (fun KK hKK => ?_) AllReadyH.nil
  go_simp
  refine hKK.out _ _ ?_ (fun hHeld => ?_)
  focus (first | exact ⟨below_set2 hbj (by omega) _ _, hK.out _ (below_set2 hbj (by omega) _ _)⟩ | exact ⟨by assumption, hK.out _ (by assumption)⟩ | exact ⟨(by repeat (first | assumption | exact Below.refl _ _ | apply below_alloc_self | apply below_drewS)), hK.out _ (by repeat (first | assumption | exact Below.refl _ _ | apply below_alloc_self | apply below_drewS))⟩)
  clear hKK KK
  (try dsimp [Act.put]); (try simp only [List.setIfInBounds_toArray, List.set_cons_zero, List.set_cons_succ])
  refine wpAnyH_take (i := 9) (v := ?_) rfl (by kernel_rfl) (by kernel_rfl) (by kernel_rfl) (fun _ _ _ h => h) (Or.inl ⟨by kernel_rfl, ?_⟩) (by assumption) ?_; rotate_left; (focus ((intro w hSw; (try dsimp only at hSw); go_simp) <;> with_reducible rfl)); (try dsimp [Act.put]); (try simp only [List.setIfInBounds_toArray, List.set_cons_zero, List.set_cons_succ])
  refine wpAnyH_done (by kernel_rfl) ?_ _
  refine NoPanic.normal ?_
  clear hHeld
  first
  | (have hXF : Bx ((wj.setCell ⟨w2.heap.size, 0, none⟩ (.int .i64 n)).setCell ⟨w2.heap.size, 1, none⟩ (.slice ja jn je)) (w2.heap.size) [.int .i64 n, .slice ja jn je] := (hB9.set 0 (.int .i64 n)).set 1 (.slice ja jn je)
     have hne : blk (.slice ja jn je) ≠ some (w2.heap.size) := fun e => by have := (hxj.blk_lt e).1; (try simp only [World.size_alloc] at this); omega
     have hrF := ((hxj.other (a := ⟨w2.heap.size, 0, none⟩) hne (.int .i64 n)).other (a := ⟨w2.heap.size, 1, none⟩) hne (.slice ja jn je)).reads
     have hbX := below_set2 (g := w2.heap.size) hbj (by omega) (.int .i64 n) (.slice ja jn je)
     clear q0 q1 qf0 qf1 hB9 hne hxj
     generalize ((wj.setCell ⟨w2.heap.size, 0, none⟩ (.int .i64 n)).setCell ⟨w2.heap.size, 1, none⟩ (.slice ja jn je)) = wX at *
     obtain ⟨gX, hgX⟩ : ∃ g, g = w2.heap.size := ⟨_, rfl⟩
     rw [← hgX] at hXF ⊢
     replace hgX := hid hgX)
  | (have hXF : Bx ((wj.setCell ⟨wi.heap.size, 0, none⟩ (.int .i64 n)).setCell ⟨wi.heap.size, 1, none⟩ (.slice ja jn je)) (wi.heap.size) [.int .i64 n, .slice ja jn je] := (hB9.set 0 (.int .i64 n)).set 1 (.slice ja jn je)
     have hne : blk (.slice ja jn je) ≠ some (wi.heap.size) := fun e => by have := (hxj.blk_lt e).1; (try simp only [World.size_alloc] at this); omega
     have hrF := ((hxj.other (a := ⟨wi.heap.size, 0, none⟩) hne (.int .i64 n)).other (a := ⟨wi.heap.size, 1, none⟩) hne (.slice ja jn je)).reads
     have hbX := below_set2 (g := wi.heap.size) hbj (by omega) (.int .i64 n) (.slice ja jn je)
     clear q0 q1 qf0 qf1 hB9 hne hxj
     generalize ((wj.setCell ⟨wi.heap.size, 0, none⟩ (.int .i64 n)).setCell ⟨wi.heap.size, 1, none⟩ (.slice ja jn je)) = wX at *
     obtain ⟨gX, hgX⟩ : ∃ g, g = wi.heap.size := ⟨_, rfl⟩
     rw [← hgX] at hXF ⊢
     replace hgX := hid hgX)
  | (try rw [alloc_store2]
     have hXF := Bx.new wj #[.int .i64 n, .slice ja jn je] 40
     have hrF := (own_alloc hxj (.cells #[.int .i64 n, .slice ja jn je] 40)).reads
     have hbX := below_alloc_self hbj (.cells #[.int .i64 n, .slice ja jn je] 40)
     clear hxj
     generalize wj.alloc (.cells #[.int .i64 n, .slice ja jn je] 40) = wX at *
     obtain ⟨gX, hgX⟩ : ∃ g, g = wj.heap.size := ⟨_, rfl⟩
     rw [← hgX] at hXF ⊢
     replace hgX := hid hgX)
  replace hu := hu.below hbX
  replace hv := hv.below hbX
  replace hA := hA.below hbX
  replace hB := hB.below hbX
  replace hb := hb.trans (hbX.mono hb.size)
  clear hbX hK hCI hCJ hS0
  have c_a0 := hA.cell 0 rfl
  have c_a1 := hA.cell 1 rfl
  have c_b0 := hB.cell 0 rfl
  have c_b1 := hB.cell 1 rfl
  have c_x0 := hXF.cell 0 rfl
  have c_x1 := hXF.cell 1 rfl
  go_wp2_with fail
  clear c_a0 c_a1 c_b0 c_b1 c_x0 c_x1
  refine (jn9 okl.out okm.out (by rw [hun.out, hvn.out]; omega) _ _ _ hu hv).mono ?_
  rintro e w41 ⟨y, rfl, hy, hs⟩
  replace hu := hu.below hs
  replace hv := hv.below hs
  replace hrF := hrF.below hs
  replace hA := hA.below hs
  replace hB := hB.below hs
  replace hXF := hXF.below hs
  replace hb := hb.trans (hs.mono hb.size)
  clear hs
  replace hy := hy.reads
  obtain ⟨ya, yn, yc, rfl⟩ : ∃ a n c, y = Value.slice a n c := by obtain ⟨a, c, e, -⟩ := hy.form; exact ⟨a, _, c, e⟩
  replace hu := hu.alloc (.cells #[.int .i64 n, .slice ya yn yc] 40)
  replace hv := hv.alloc (.cells #[.int .i64 n, .slice ya yn yc] 40)
  replace hrF := hrF.alloc (.cells #[.int .i64 n, .slice ya yn yc] 40)
  replace hy := hy.alloc (.cells #[.int .i64 n, .slice ya yn yc] 40)
  replace hA := hA.alloc (.cells #[.int .i64 n, .slice ya yn yc] 40)
  replace hB := hB.alloc (.cells #[.int .i64 n, .slice ya yn yc] 40)
  replace hXF := hXF.alloc (.cells #[.int .i64 n, .slice ya yn yc] 40)
  have hY := Bx.new w41 #[.int .i64 n, .slice ya yn yc] 40
  replace hb := hb.alloc hb.size (.cells #[.int .i64 n, .slice ya yn yc] 40)
  have c_a0 := hA.cell 0 rfl
  have c_a1 := hA.cell 1 rfl
  have c_b0 := hB.cell 0 rfl
  have c_b1 := hB.cell 1 rfl
  have c_x0 := hXF.cell 0 rfl
  have c_x1 := hXF.cell 1 rfl
  have c_y0 := hY.cell 0 rfl
  have c_y1 := hY.cell 1 rfl
  go_wp2_with fail
  clear c_a0 c_a1 c_b0 c_b1 c_x0 c_x1 c_y0 c_y1
  generalize (w41.alloc (.cells #[.int .i64 n, .slice ya yn yc] 40)) = w42 at *
  have hK := hid (fun (w' : World) (h : Below w42.heap.size w42 w') => (⟨(hXF.below h).cell 0 rfl, (hXF.below h).cell 1 rfl, (hY.below h).cell 0 rfl, (hY.below h).cell 1 rfl, (hA.below h).cell 0 rfl, (hA.below h).cell 1 rfl, (hB.below h).cell 0 rfl, (hB.below h).cell 1 rfl⟩ : w'.cell? ⟨gX, 0, none⟩ = some (.int .i64 n) ∧ w'.cell? ⟨gX, 1, none⟩ = some (.slice ja jn je) ∧ w'.cell? ⟨w41.heap.size, 0, none⟩ = some (.int .i64 n) ∧ w'.cell? ⟨w41.heap.size, 1, none⟩ = some (.slice ya yn yc) ∧ w'.cell? ⟨w1.heap.size, 0, none⟩ = some (.int .i64 n) ∧ w'.cell? ⟨w1.heap.size, 1, none⟩ = some (.slice ua un ue) ∧ w'.cell? ⟨(w1.heap.size + 1), 0, none⟩ = some (.int .i64 n) ∧ w'.cell? ⟨(w1.heap.size + 1), 1, none⟩ = some (.slice va vn ve)))
  have hbD : Below w42.heap.size w42 w42.drew := (Below.refl _ _).drew
  have hC1 := hid (fun (w' : World) (h : Below w42.heap.size w42 w') => (red0 okx.out (red_inv l) _ w' (hrF.below h)).mono fun e w'' ⟨a, c, h1, h2⟩ => (⟨a, c, h1, h.trans (h2.mono h.size)⟩ : ∃ a c, e = Ending.returned (.agg #[.int .i64 n, .slice a 0 c]) ∧ Below w42.heap.size w42 w''))
  obtain ⟨e1, he1⟩ : ∃ e1, expF n l = e1 := ⟨_, rfl⟩
  obtain ⟨e2, he2⟩ : ∃ e2, expF n m = e2 := ⟨_, rfl⟩
  have hb1 := exp_bd (n := n) (l := l) (by rw [hun.out]; omega)
  have hb2 := exp_bd (n := n) (l := m) (by rw [hvn.out]; omega)
  rw [he1] at hb1
  rw [he2] at hb2
  have hC2 := hid (fun (w' : World) (h : Below w42.heap.size w42 w') => calls_fromB (by have := expo_impl n _ _ w' (hy.below h); rw [exp_app okl.out okm.out oky.out, he1, he2] at this; exact this) h)
  have hC3 := hid (fun (w' : World) (h : Below w42.heap.size w42 w') => calls_fromB (by have := expo_impl n _ _ w' (hu.below h); rw [he1] at this; exact this) h)
  have hC4 := hid (fun (w' : World) (h : Below w42.heap.size w42 w') => calls_fromB (by have := expo_impl n _ _ w' (hv.below h); rw [he2] at this; exact this) h)
  replace he1 := hid he1
  replace he2 := hid he2
  have hwe := Go.IntWalk.i64_in (e1 + e2) (by omega)
  have hfd : ∀ (a : Option Addr) (c : Nat) (w : World), (Instr.field 40 (.agg #[.int .i64 n, .slice a 0 c]) 1).run Tryd.prog w = .ok (.slice a 0 c) w := fun _ _ _ => by kernel_rfl
  refine wp_region_noPanic ?_
  refine wp_region_held_drew (S := fun w' => Below w42.heap.size w42 w' ∧ w'.cell? ⟨gX, 0, none⟩ = some (.int .i64 n) ∧ w'.cell? ⟨gX, 1, none⟩ = some (.slice ja jn je) ∧ w'.cell? ⟨w41.heap.size, 0, none⟩ = some (.int .i64 n) ∧ w'.cell? ⟨w41.heap.size, 1, none⟩ = some (.slice ya yn yc) ∧ w'.cell? ⟨w1.heap.size, 0, none⟩ = some (.int .i64 n) ∧ w'.cell? ⟨w1.heap.size, 1, none⟩ = some (.slice ua un ue) ∧ w'.cell? ⟨(w1.heap.size + 1), 0, none⟩ = some (.int .i64 n) ∧ w'.cell? ⟨(w1.heap.size + 1), 1, none⟩ = some (.slice va vn ve)) (by kernel_rfl) ?_ (fun hHeld => ?_)
  focus (first | exact ⟨hbD, hK.out _ hbD⟩ | exact ⟨by assumption, hK.out _ (by assumption)⟩)
  refine wpAnyH_take (i := 0) (v := ?_) rfl (by kernel_rfl) (by kernel_rfl) (by kernel_rfl) (fun _ _ _ h => h) (Or.inl ⟨by kernel_rfl, ?_⟩) (by assumption) ?_; rotate_left; (focus ((intro w hSw; (try dsimp only at hSw); go_simp) <;> with_reducible rfl)); (try dsimp [Act.put]); (try simp only [List.setIfInBounds_toArray, List.set_cons_zero, List.set_cons_succ])
  refine wpAnyH_take (i := 1) (v := ?_) rfl (by kernel_rfl) (by kernel_rfl) (by kernel_rfl) (fun _ _ _ h => h) (Or.inl ⟨by kernel_rfl, ?_⟩) (by assumption) ?_; rotate_left; (focus ((intro w hSw; (try dsimp only at hSw); go_simp) <;> with_reducible rfl)); (try dsimp [Act.put]); (try simp only [List.setIfInBounds_toArray, List.set_cons_zero, List.set_cons_succ])
  refine wpAnyH_take (i := 2) (v := ?_) rfl (by kernel_rfl) (by kernel_rfl) (by kernel_rfl) (fun _ _ _ h => h) (Or.inl ⟨by kernel_rfl, ?_⟩) (by assumption) ?_; rotate_left; (focus ((intro w hSw; (try dsimp only at hSw); go_simp) <;> with_reducible rfl)); (try dsimp [Act.put]); (try simp only [List.setIfInBounds_toArray, List.set_cons_zero, List.set_cons_succ])
  refine wpAnyH_take (i := 3) (v := ?_) rfl (by kernel_rfl) (by kernel_rfl) (by kernel_rfl) (fun _ _ _ h => h) (Or.inl ⟨by kernel_rfl, ?_⟩) (by assumption) ?_; rotate_left; (focus ((intro w hSw; (try dsimp only at hSw); go_simp) <;> with_reducible rfl)); (try dsimp [Act.put]); (try simp only [List.setIfInBounds_toArray, List.set_cons_zero, List.set_cons_succ])
  refine wpAnyH_take (i := 4) (v := ?_) rfl (by kernel_rfl) (by kernel_rfl) (by kernel_rfl) (fun _ _ _ h => h) (Or.inl ⟨by kernel_rfl, ?_⟩) (by assumption) ?_; rotate_left; (focus ((intro w hSw; (try dsimp only at hSw); go_simp) <;> with_reducible rfl)); (try dsimp [Act.put]); (try simp only [List.setIfInBounds_toArray, List.set_cons_zero, List.set_cons_succ])
  refine wpAnyH_take (i := 5) (v := ?_) rfl (by kernel_rfl) (by kernel_rfl) (by kernel_rfl) (fun _ _ _ h => h) (Or.inl ⟨by kernel_rfl, ?_⟩) (by assumption) ?_; rotate_left; (focus ((intro w hSw; (try dsimp only at hSw); go_simp) <;> with_reducible rfl)); (try dsimp [Act.put]); (try simp only [List.setIfInBounds_toArray, List.set_cons_zero, List.set_cons_succ])
  refine wpAnyH_take (i := 6) (v := ?_) rfl (by kernel_rfl) (by kernel_rfl) (by kernel_rfl) (fun _ _ _ h => h) (Or.inl ⟨by kernel_rfl, ?_⟩) (by assumption) ?_; rotate_left; (focus ((intro w hSw; (try dsimp only at hSw); go_simp) <;> with_reducible rfl)); (try dsimp [Act.put]); (try simp only [List.setIfInBounds_toArray, List.set_cons_zero, List.set_cons_succ])
  refine wpAnyH_take (i := 7) (v := ?_) rfl (by kernel_rfl) (by kernel_rfl) (by kernel_rfl) (fun _ _ _ h => h) (Or.inl ⟨by kernel_rfl, ?_⟩) (by assumption) ?_; rotate_left; (focus ((intro w hSw; (try dsimp only at hSw); go_simp) <;> with_reducible rfl)); (try dsimp [Act.put]); (try simp only [List.setIfInBounds_toArray, List.set_cons_zero, List.set_cons_succ])
  refine wpAnyH_ready (rs := [8]) (by kernel_rfl) (by simp) ?_
  refine AllReadyH.cons (o := { dst := some 45, op := .call { callee := .value (.func 42), args := #[.tmp 44], argTypes := #[40] }, type := _, pos := _, after := _, guard := _ }) rfl (fun KK hKK => ?_) AllReadyH.nil
  refine step_callw (hC1.out _ (by first | assumption | exact hHeld.1)) (fun _ => by kernel_rfl) (by kernel_rfl) (.tmp 44) rfl rfl ?_
  rintro e wa ⟨ra, rc, rfl, hba⟩
  refine ⟨_, rfl, ?_⟩
  refine hKK.out _ _ ?_ (fun hHeld => ?_)
  focus (first | exact ⟨hbD, hK.out _ hbD⟩ | exact ⟨by assumption, hK.out _ (by assumption)⟩)
  clear hKK KK
  (try dsimp [Act.put]); (try simp only [List.setIfInBounds_toArray, List.set_cons_zero, List.set_cons_succ])
  refine wpAnyH_take (i := 9) (v := ?_) rfl (by kernel_rfl) (by kernel_rfl) (by kernel_rfl) (fun _ _ _ h => h) (Or.inl ⟨by kernel_rfl, ?_⟩) (by assumption) ?_; rotate_left; (focus ((intro w hSw; (try dsimp only at hSw); go_simp) <;> with_reducible rfl)); (try dsimp [Act.put]); (try simp only [List.setIfInBounds_toArray, List.set_cons_zero, List.set_cons_succ])
  refine wpAnyH_take (i := 10) (v := ?_) rfl (by kernel_rfl) (by kernel_rfl) (by kernel_rfl) (fun _ _ _ h => h) (Or.inl ⟨by kernel_rfl, ?_⟩) (by assumption) ?_; rotate_left; (focus ((intro w hSw; (try dsimp only at hSw); go_simp) <;> with_reducible rfl)); (try dsimp [Act.put]); (try simp only [List.setIfInBounds_toArray, List.set_cons_zero, List.set_cons_succ])
  refine wpAnyH_take (i := 11) (v := ?_) rfl (by kernel_rfl) (by kernel_rfl) (by kernel_rfl) (fun _ _ _ h => h) (Or.inl ⟨by kernel_rfl, ?_⟩) (by assumption) ?_; rotate_left; (focus ((intro w hSw; (try dsimp only at hSw); go_simp) <;> with_reducible rfl)); (try dsimp [Act.put]); (try simp only [List.setIfInBounds_toArray, List.set_cons_zero, List.set_cons_succ])
  refine wpAnyH_take (i := 12) (v := ?_) rfl (by kernel_rfl) (by kernel_rfl) (by kernel_rfl) (fun _ _ _ h => h) (Or.inl ⟨by kernel_rfl, ?_⟩) (by assumption) ?_; rotate_left; (focus ((intro w hSw; (try dsimp only at hSw); go_simp) <;> with_reducible rfl)); (try dsimp [Act.put]); (try simp only [List.setIfInBounds_toArray, List.set_cons_zero, List.set_cons_succ])
  refine wpAnyH_take (i := 13) (v := ?_) rfl (by kernel_rfl) (by kernel_rfl) (by kernel_rfl) (fun _ _ _ h => h) (Or.inl ⟨by kernel_rfl, ?_⟩) (by assumption) ?_; rotate_left; (focus ((intro w hSw; (try dsimp only at hSw); go_simp) <;> with_reducible rfl)); (try dsimp [Act.put]); (try simp only [List.setIfInBounds_toArray, List.set_cons_zero, List.set_cons_succ])
  refine wpAnyH_take (i := 14) (v := ?_) rfl (by kernel_rfl) (by kernel_rfl) (by kernel_rfl) (fun _ _ _ h => h) (Or.inl ⟨by kernel_rfl, ?_⟩) (by assumption) ?_; rotate_left; (focus ((intro w hSw; (try dsimp only at hSw); go_simp) <;> with_reducible rfl)); (try dsimp [Act.put]); (try simp only [List.setIfInBounds_toArray, List.set_cons_zero, List.set_cons_succ])
  refine wpAnyH_take (i := 16) (v := ?_) rfl (by kernel_rfl) (by kernel_rfl) (by kernel_rfl) (fun _ _ _ h => h) (Or.inl ⟨by kernel_rfl, ?_⟩) (by assumption) ?_; rotate_left; (focus ((intro w hSw; (try dsimp only at hSw); go_simp) <;> with_reducible rfl)); (try dsimp [Act.put]); (try simp only [List.setIfInBounds_toArray, List.set_cons_zero, List.set_cons_succ])
  refine wpAnyH_take (i := 18) (v := ?_) rfl (by kernel_rfl) (by kernel_rfl) (by kernel_rfl) (fun _ _ _ h => h) (Or.inl ⟨by kernel_rfl, ?_⟩) (by assumption) ?_; rotate_left; (focus ((intro w hSw; (try dsimp only at hSw); go_simp) <;> with_reducible rfl)); (try dsimp [Act.put]); (try simp only [List.setIfInBounds_toArray, List.set_cons_zero, List.set_cons_succ])
  refine wpAnyH_ready (rs := [15]) (by kernel_rfl) (by simp) ?_
  refine AllReadyH.cons (o := { dst := some 52, op := .call { callee := .value (.func 43), args := #[.tmp 51], argTypes := #[40] }, type := _, pos := _, after := _, guard := _ }) rfl (fun KK hKK => ?_) AllReadyH.nil
  refine step_callw (hC2.out _ (by first | assumption | exact hHeld.1)) (fun _ => by kernel_rfl) (by kernel_rfl) (.tmp 51) rfl rfl ?_
  rintro e wb ⟨rfl, hbb⟩
  refine ⟨_, rfl, ?_⟩
  refine hKK.out _ _ ?_ (fun hHeld => ?_)
  focus (first | exact ⟨hbD, hK.out _ hbD⟩ | exact ⟨by assumption, hK.out _ (by assumption)⟩)
  clear hKK KK
  (try dsimp [Act.put]); (try simp only [List.setIfInBounds_toArray, List.set_cons_zero, List.set_cons_succ])
  refine wpAnyH_ready (rs := [17]) (by kernel_rfl) (by simp) ?_
  refine AllReadyH.cons (o := { dst := some 54, op := .call { callee := .value (.func 43), args := #[.tmp 53], argTypes := #[40] }, type := _, pos := _, after := _, guard := _ }) rfl (fun KK hKK => ?_) AllReadyH.nil
  refine step_callw (hC3.out _ (by first | assumption | exact hHeld.1)) (fun _ => by kernel_rfl) (by kernel_rfl) (.tmp 53) rfl rfl ?_
  rintro e wc ⟨rfl, hbc⟩
  refine ⟨_, rfl, ?_⟩
  refine hKK.out _ _ ?_ (fun hHeld => ?_)
  focus (first | exact ⟨hbD, hK.out _ hbD⟩ | exact ⟨by assumption, hK.out _ (by assumption)⟩)
  clear hKK KK
  (try dsimp [Act.put]); (try simp only [List.setIfInBounds_toArray, List.set_cons_zero, List.set_cons_succ])
  refine wpAnyH_ready (rs := [19]) (by kernel_rfl) (by simp) ?_
  refine AllReadyH.cons (o := { dst := some 56, op := .call { callee := .value (.func 43), args := #[.tmp 55], argTypes := #[40] }, type := _, pos := _, after := _, guard := _ }) rfl (fun KK hKK => ?_) AllReadyH.nil
  refine step_callw (hC4.out _ (by first | assumption | exact hHeld.1)) (fun _ => by kernel_rfl) (by kernel_rfl) (.tmp 55) rfl rfl ?_
  rintro e wd ⟨rfl, hbd⟩
  refine ⟨_, rfl, ?_⟩
  refine hKK.out _ _ ?_ (fun hHeld => ?_)
  focus (first | exact ⟨hbD, hK.out _ hbD⟩ | exact ⟨by assumption, hK.out _ (by assumption)⟩)
  clear hKK KK
  (try dsimp [Act.put]); (try simp only [List.setIfInBounds_toArray, List.set_cons_zero, List.set_cons_succ])
  refine wpAnyH_take (i := 20) (v := ?_) rfl (by kernel_rfl) (by kernel_rfl) (by kernel_rfl) (fun _ _ _ h => h) (Or.inl ⟨by kernel_rfl, ?_⟩) (by assumption) ?_; rotate_left; (focus ((intro w hSw; (try dsimp only at hSw); go_simp) <;> with_reducible rfl)); (try dsimp [Act.put]); (try simp only [List.setIfInBounds_toArray, List.set_cons_zero, List.set_cons_succ])
  refine wpAnyH_take (i := 21) (v := ?_) rfl (by kernel_rfl) (by kernel_rfl) (by kernel_rfl) (fun _ _ _ h => h) (Or.inl ⟨by kernel_rfl, ?_⟩) (by assumption) ?_; rotate_left; (focus ((intro w hSw; (try dsimp only at hSw); go_simp) <;> with_reducible rfl)); (try dsimp [Act.put]); (try simp only [List.setIfInBounds_toArray, List.set_cons_zero, List.set_cons_succ])
  refine wpAnyH_take (i := 22) (v := ?_) rfl (by kernel_rfl) (by kernel_rfl) (by kernel_rfl) (fun _ _ _ h => h) (Or.inl ⟨by kernel_rfl, ?_⟩) (by assumption) ?_; rotate_left; (focus ((intro w hSw; (try dsimp only at hSw); go_simp) <;> with_reducible rfl)); (try dsimp [Act.put]); (try simp only [List.setIfInBounds_toArray, List.set_cons_zero, List.set_cons_succ])
  refine wpAnyH_done (by kernel_rfl) ?_ _
  refine NoPanic.normal ?_
  replace hu := hu.below hbd
  replace hv := hv.below hbd
  replace hrF := hrF.below hbd
  replace hy := hy.below hbd
  replace hA := hA.below hbd
  replace hB := hB.below hbd
  replace hXF := hXF.below hbd
  replace hY := hY.below hbd
  replace hb := hb.trans (hbd.mono hb.size)
  clear hHeld hbd hba hbb hbc hC1 hC2 hC3 hC4 hK hbD hwe
  have hPJ := hid (perm_join okl.out okm.out oky.out)
  have c_a0 := hA.cell 0 rfl
  have c_a1 := hA.cell 1 rfl
  have c_b0 := hB.cell 0 rfl
  have c_b1 := hB.cell 1 rfl
  have c_x0 := hXF.cell 0 rfl
  have c_x1 := hXF.cell 1 rfl
  have c_y0 := hY.cell 0 rfl
  have c_y1 := hY.cell 1 rfl
  go_wp2_with fail
  clear c_a0 c_a1 c_b0 c_b1 c_x0 c_x1 c_y0 c_y1
  refine (bp9 _ _ hu).mono ?_
  rintro e w43 ⟨p, rfl, hp, hs⟩
  replace hu := hu.below hs
  replace hv := hv.below hs
  replace hrF := hrF.below hs
  replace hy := hy.below hs
  replace hA := hA.below hs
  replace hB := hB.below hs
  replace hXF := hXF.below hs
  replace hY := hY.below hs
  replace hb := hb.trans (hs.mono hb.size)
  clear hs
  have hlp := hp.len (P := Tryd.prog) 35 3 ⟨_, sliceI⟩
  rw [length_ints, permB_len okl.out] at hlp
  have c_a0 := hA.cell 0 rfl
  have c_a1 := hA.cell 1 rfl
  have c_b0 := hB.cell 0 rfl
  have c_b1 := hB.cell 1 rfl
  have c_x0 := hXF.cell 0 rfl
  have c_x1 := hXF.cell 1 rfl
  have c_y0 := hY.cell 0 rfl
  have c_y1 := hY.cell 1 rfl
  go_wp2_with fail
  clear c_a0 c_a1 c_b0 c_b1 c_x0 c_x1 c_y0 c_y1
  refine (bp9 _ _ hv).mono ?_
  rintro e w44 ⟨q, rfl, hq, hs⟩
  replace hu := hu.below hs
  replace hv := hv.below hs
  replace hrF := hrF.below hs
  replace hy := hy.below hs
  replace hp := hp.below hs
  replace hA := hA.below hs
  replace hB := hB.below hs
  replace hXF := hXF.below hs
  replace hY := hY.below hs
  replace hb := hb.trans (hs.mono hb.size)
  clear hs
  have hlq := hq.len (P := Tryd.prog) 35 3 ⟨_, sliceI⟩
  rw [length_ints, permB_len okm.out] at hlq
  have c_a0 := hA.cell 0 rfl
  have c_a1 := hA.cell 1 rfl
  have c_b0 := hB.cell 0 rfl
  have c_b1 := hB.cell 1 rfl
  have c_x0 := hXF.cell 0 rfl
  have c_x1 := hXF.cell 1 rfl
  have c_y0 := hY.cell 0 rfl
  have c_y1 := hY.cell 1 rfl
  go_wp2_with fail
  clear c_a0 c_a1 c_b0 c_b1 c_x0 c_x1 c_y0 c_y1
  refine (bp9 _ _ hy).mono ?_
  rintro e w45 ⟨r, rfl, hr, hs⟩
  replace hu := hu.below hs
  replace hv := hv.below hs
  replace hrF := hrF.below hs
  replace hy := hy.below hs
  replace hp := hp.below hs
  replace hq := hq.below hs
  replace hA := hA.below hs
  replace hB := hB.below hs
  replace hXF := hXF.below hs
  replace hY := hY.below hs
  replace hb := hb.trans (hs.mono hb.size)
  clear hs
  have hlr := hr.len (P := Tryd.prog) 35 3 ⟨_, sliceI⟩
  rw [length_ints, permB_len oky.out] at hlr
  have c_a0 := hA.cell 0 rfl
  have c_a1 := hA.cell 1 rfl
  have c_b0 := hB.cell 0 rfl
  have c_b1 := hB.cell 1 rfl
  have c_x0 := hXF.cell 0 rfl
  have c_x1 := hXF.cell 1 rfl
  have c_y0 := hY.cell 0 rfl
  have c_y1 := hY.cell 1 rfl
  go_wp2_with fail
  clear c_a0 c_a1 c_b0 c_b1 c_x0 c_x1 c_y0 c_y1
  go_loopw [12] (fun i wr => ∃ k : Nat, k ≤ n ∧ i = .int .i64 k ∧ Below w45.heap.size w45 wr) (fun i _ => n - (intOf i).toNat)
  case atStart => exact ⟨0, by omega, rfl, Below.refl _ _⟩
  case round =>
  obtain ⟨k, hk, rfl, hbr⟩ := hrel
  by_cases hlt : k < n
  case pos =>
    obtain ⟨z0, z1⟩ := hPJ.out.1 k hlt
    have z2 := hPJ.out.2 k hlt
    have hi1 := hp.idx (P := Tryd.prog) 35 sliceI sizeI .i64 (k : Int) (by omega) (by rw [length_ints, permB_len okl.out]; omega)
    have hi2 := hr.idx (P := Tryd.prog) 35 sliceI sizeI .i64 (k : Int) (by omega) (by rw [length_ints, permB_len oky.out]; omega)
    simp only [Int.toNat_natCast] at hi1 hi2
    have hi3 := hq.idx (P := Tryd.prog) 35 sliceI sizeI .i64 (nth (permB n l) k) z0 (by rw [length_ints, permB_len okm.out]; omega)
    have c1 := (hp.below hbr).int (i := k) (by rw [permB_len okl.out]; exact hlt)
    have c2 := (hr.below hbr).int (i := k) (by rw [permB_len oky.out]; exact hlt)
    have c3 := (hq.below hbr).int (i := (nth (permB n l) k).toNat) (by rw [permB_len okm.out]; omega)
    rw [z2] at c2
    generalize nth (permB n l) k = pk at *
    generalize nth (permB n m) pk.toNat = qk at *
    have n1 : decide (pk < 0) = false := decide_eq_false (by omega)
    have n2 : ¬ pk < 0 := by omega
    have n3 : ¬ (n : Int) ≤ pk := by omega
    have n4 : decide ((n : Int) ≤ pk) = false := decide_eq_false n3
    have n5 : (qk != qk) = false := by simp
    clear z2
    replace hbr := hid hbr
    go_wp2_with fail
    go_quiet (fail)
    have hbq := hid (hbr.out.trans ((below_drewN (Below.refl _ wr) nq).mono hbr.out.size))
    go_wp2_with fail
    go_roundw
    case rel => exact ⟨k + 1, by omega, by go_num, hbq.out⟩
    case measure => simp [intOf] <;> omega
  case neg =>
  obtain rfl : n = k := by omega
  replace hu := hu.below hbr
  replace hv := hv.below hbr
  replace hrF := hrF.below hbr
  replace hy := hy.below hbr
  replace hp := hp.below hbr
  replace hq := hq.below hbr
  replace hr := hr.below hbr
  replace hA := hA.below hbr
  replace hB := hB.below hbr
  replace hXF := hXF.below hbr
  replace hY := hY.below hbr
  replace hb := hb.trans (hbr.mono hb.size)
  clear hbr hPJ
  have c_a0 := hA.cell 0 rfl
  have c_a1 := hA.cell 1 rfl
  have c_b0 := hB.cell 0 rfl
  have c_b1 := hB.cell 1 rfl
  have c_x0 := hXF.cell 0 rfl
  have c_x1 := hXF.cell 1 rfl
  have c_y0 := hY.cell 0 rfl
  have c_y1 := hY.cell 1 rfl
  have hT1 := hid (hT.out.below hb)
  go_wp2_with fail
  clear hlt hk hlp hlq hlr hp hq hr
  clear c_a0 c_a1 c_b0 c_b1 c_x0 c_x1 c_y0 c_y1
  refine (BraidTextI n _ l wr hu hT1.out).mono ?_
  rintro e w46 ⟨rfl, hs⟩
  replace hu := hu.below hs
  replace hv := hv.below hs
  replace hrF := hrF.below hs
  replace hy := hy.below hs
  replace hA := hA.below hs
  replace hB := hB.below hs
  replace hXF := hXF.below hs
  replace hY := hY.below hs
  replace hb := hb.trans (hs.mono hb.size)
  clear hs
  have hE1 := hid (hE.out.below hb)
  have hM1 := hid (hM.out.below hb)
  replace hT1 := hid (hT.out.below hb)
  have c_a0 := hA.cell 0 rfl
  have c_a1 := hA.cell 1 rfl
  have c_b0 := hB.cell 0 rfl
  have c_b1 := hB.cell 1 rfl
  have c_x0 := hXF.cell 0 rfl
  have c_x1 := hXF.cell 1 rfl
  have c_y0 := hY.cell 0 rfl
  have c_y1 := hY.cell 1 rfl
  go_wp2_with fail
  clear c_a0 c_a1 c_b0 c_b1 c_x0 c_x1 c_y0 c_y1
  refine (read9 okl.out _ hT1.out hE1.out hM1.out).mono ?_
  rintro e w47 ⟨z, rfl, hz, hs⟩
  replace hu := hu.below hs
  replace hv := hv.below hs
  replace hrF := hrF.below hs
  replace hy := hy.below hs
  replace hA := hA.below hs
  replace hB := hB.below hs
  replace hXF := hXF.below hs
  replace hY := hY.below hs
  replace hb := hb.trans (hs.mono hb.size)
  clear hs
  clear hT1 hE1 hM1
  obtain ⟨za, zn, zc, rfl⟩ : ∃ a n c, z = Value.slice a n c := by obtain ⟨a, c, e, -⟩ := hz.form; exact ⟨a, _, c, e⟩
  replace hu := hu.alloc (.cells #[.int .i64 n, .slice za zn zc] 40)
  replace hv := hv.alloc (.cells #[.int .i64 n, .slice za zn zc] 40)
  replace hrF := hrF.alloc (.cells #[.int .i64 n, .slice za zn zc] 40)
  replace hy := hy.alloc (.cells #[.int .i64 n, .slice za zn zc] 40)
  replace hz := hz.alloc (.cells #[.int .i64 n, .slice za zn zc] 40)
  replace hA := hA.alloc (.cells #[.int .i64 n, .slice za zn zc] 40)
  replace hB := hB.alloc (.cells #[.int .i64 n, .slice za zn zc] 40)
  replace hXF := hXF.alloc (.cells #[.int .i64 n, .slice za zn zc] 40)
  replace hY := hY.alloc (.cells #[.int .i64 n, .slice za zn zc] 40)
  have hZ := Bx.new w47 #[.int .i64 n, .slice za zn zc] 40
  replace hb := hb.alloc hb.size (.cells #[.int .i64 n, .slice za zn zc] 40)
  have c_a0 := hA.cell 0 rfl
  have c_a1 := hA.cell 1 rfl
  have c_b0 := hB.cell 0 rfl
  have c_b1 := hB.cell 1 rfl
  have c_x0 := hXF.cell 0 rfl
  have c_x1 := hXF.cell 1 rfl
  have c_y0 := hY.cell 0 rfl
  have c_y1 := hY.cell 1 rfl
  have c_z0 := hZ.cell 0 rfl
  have c_z1 := hZ.cell 1 rfl
  go_wp2_with fail
  clear c_a0 c_a1 c_b0 c_b1 c_x0 c_x1 c_y0 c_y1 c_z0 c_z1
  generalize (w47.alloc (.cells #[.int .i64 n, .slice za zn zc] 40)) = w48 at *
  refine (red9 oky.out _ _ hy).mono ?_
  rintro e w49 ⟨o, rfl, ho, hs⟩
  replace hu := hu.below hs
  replace hv := hv.below hs
  replace hrF := hrF.below hs
  replace hy := hy.below hs
  replace hz := hz.below hs
  replace hA := hA.below hs
  replace hB := hB.below hs
  replace hXF := hXF.below hs
  replace hY := hY.below hs
  replace hZ := hZ.below hs
  replace hb := hb.trans (hs.mono hb.size)
  clear hs
  obtain ⟨oa, on, oc, rfl⟩ : ∃ a n c, o = Value.slice a n c := by obtain ⟨a, c, e, -⟩ := ho.form; exact ⟨a, _, c, e⟩
  replace hu := hu.alloc (.cells #[.int .i64 n, .slice oa on oc] 40)
  replace hv := hv.alloc (.cells #[.int .i64 n, .slice oa on oc] 40)
  replace hrF := hrF.alloc (.cells #[.int .i64 n, .slice oa on oc] 40)
  replace hy := hy.alloc (.cells #[.int .i64 n, .slice oa on oc] 40)
  replace hz := hz.alloc (.cells #[.int .i64 n, .slice oa on oc] 40)
  replace ho := ho.alloc (.cells #[.int .i64 n, .slice oa on oc] 40)
  replace hA := hA.alloc (.cells #[.int .i64 n, .slice oa on oc] 40)
  replace hB := hB.alloc (.cells #[.int .i64 n, .slice oa on oc] 40)
  replace hXF := hXF.alloc (.cells #[.int .i64 n, .slice oa on oc] 40)
  replace hY := hY.alloc (.cells #[.int .i64 n, .slice oa on oc] 40)
  replace hZ := hZ.alloc (.cells #[.int .i64 n, .slice oa on oc] 40)
  have hO := Bx.new w49 #[.int .i64 n, .slice oa on oc] 40
  replace hb := hb.alloc hb.size (.cells #[.int .i64 n, .slice oa on oc] 40)
  have c_a0 := hA.cell 0 rfl
  have c_a1 := hA.cell 1 rfl
  have c_b0 := hB.cell 0 rfl
  have c_b1 := hB.cell 1 rfl
  have c_x0 := hXF.cell 0 rfl
  have c_x1 := hXF.cell 1 rfl
  have c_y0 := hY.cell 0 rfl
  have c_y1 := hY.cell 1 rfl
  have c_z0 := hZ.cell 0 rfl
  have c_z1 := hZ.cell 1 rfl
  have c_o0 := hO.cell 0 rfl
  have c_o1 := hO.cell 1 rfl
  go_wp2_with fail
  clear c_a0 c_a1 c_b0 c_b1 c_x0 c_x1 c_y0 c_y1 c_z0 c_z1 c_o0 c_o1
  generalize (w49.alloc (.cells #[.int .i64 n, .slice oa on oc] 40)) = w50 at *
  have okr := hid ((oL.out.app oM.out).red.ok (by omega) (by have := redW_len (l ++ m); rw [List.length_append, hun.out, hvn.out] at this; omega))
  have okmi := hid (oL.out.mir.ok (by omega) (by rw [List.length_map, hun.out]; omega))
  have hK := hid (fun (w' : World) (h : Below w50.heap.size w50 w') => (⟨(hZ.below h).cell 0 rfl, (hZ.below h).cell 1 rfl, (hA.below h).cell 0 rfl, (hA.below h).cell 1 rfl, (hO.below h).cell 0 rfl, (hO.below h).cell 1 rfl⟩ : w'.cell? ⟨w47.heap.size, 0, none⟩ = some (.int .i64 n) ∧ w'.cell? ⟨w47.heap.size, 1, none⟩ = some (.slice za zn zc) ∧ w'.cell? ⟨w1.heap.size, 0, none⟩ = some (.int .i64 n) ∧ w'.cell? ⟨w1.heap.size, 1, none⟩ = some (.slice ua un ue) ∧ w'.cell? ⟨w49.heap.size, 0, none⟩ = some (.int .i64 n) ∧ w'.cell? ⟨w49.heap.size, 1, none⟩ = some (.slice oa on oc)))
  have hbD : Below w50.heap.size w50 w50.drew := (Below.refl _ _).drew
  have hC1 := hid (fun (w' : World) (h : Below w50.heap.size w50 w') => calls_fromB (sb9 (n := n) _ _ w' (hz.below h) (hu.below h)) h)
  have hC2 := hid (fun (w' : World) (h : Below w50.heap.size w50 w') => (red9 okr.out _ w' (ho.below h)).mono fun e w'' ⟨x, h1, h2, h3⟩ => (⟨x, h1, by rw [red_red] at h2; exact h2, h.trans (h3.mono h.size)⟩ : ∃ x, e = Ending.returned (.agg #[.int .i64 n, x]) ∧ Reads w'' x (ints (redW (l ++ m))) ∧ Below w50.heap.size w50 w''))
  have hC3 := hid (fun (w' : World) (x : Value) (hx : Reads w' x (ints (redW (l ++ m)))) (h : Below w50.heap.size w50 w') => calls_fromB (sb9 (n := n) _ _ w' hx (ho.below h)) h)
  have hC4 := hid (fun (w' : World) (h : Below w50.heap.size w50 w') => (mir9 okl.out _ w' (hu.below h)).mono fun e w'' ⟨x, h1, h2, h3⟩ => (⟨x, h1, h2, h.trans (h3.mono h.size)⟩ : ∃ x, e = Ending.returned (.agg #[.int .i64 n, x]) ∧ Reads w'' x (ints (l.map (mirL n))) ∧ Below w50.heap.size w50 w''))
  have hC5 := hid (fun (w' : World) (x : Value) (hx : Reads w' x (ints (l.map (mirL n)))) (h : Below w50.heap.size w50 w') => (mir9 okmi.out _ w' hx).mono fun e w'' ⟨x, h1, h2, h3⟩ => (⟨x, h1, by rw [mir_all oL.out] at h2; exact h2, h.trans (h3.mono h.size)⟩ : ∃ x, e = Ending.returned (.agg #[.int .i64 n, x]) ∧ Reads w'' x (ints l) ∧ Below w50.heap.size w50 w''))
  have hC6 := hid (fun (w' : World) (x : Value) (hx : Reads w' x (ints l)) (h : Below w50.heap.size w50 w') => calls_fromB (sb9 (n := n) _ _ w' hx (hu.below h)) h)
  refine wp_region_noPanic ?_
  refine wp_region_held_drew (S := fun w' => Below w50.heap.size w50 w' ∧ w'.cell? ⟨w47.heap.size, 0, none⟩ = some (.int .i64 n) ∧ w'.cell? ⟨w47.heap.size, 1, none⟩ = some (.slice za zn zc) ∧ w'.cell? ⟨w1.heap.size, 0, none⟩ = some (.int .i64 n) ∧ w'.cell? ⟨w1.heap.size, 1, none⟩ = some (.slice ua un ue) ∧ w'.cell? ⟨w49.heap.size, 0, none⟩ = some (.int .i64 n) ∧ w'.cell? ⟨w49.heap.size, 1, none⟩ = some (.slice oa on oc)) (by kernel_rfl) ?_ (fun hHeld => ?_)
  focus (first | exact ⟨hbD, hK.out _ hbD⟩ | exact ⟨by assumption, hK.out _ (by assumption)⟩)
  refine wpAnyH_take (i := 0) (v := ?_) rfl (by kernel_rfl) (by kernel_rfl) (by kernel_rfl) (fun _ _ _ h => h) (Or.inl ⟨by kernel_rfl, ?_⟩) (by assumption) ?_; rotate_left; (focus ((intro w hSw; (try dsimp only at hSw); go_simp) <;> with_reducible rfl)); (try dsimp [Act.put]); (try simp only [List.setIfInBounds_toArray, List.set_cons_zero, List.set_cons_succ])
  refine wpAnyH_take (i := 1) (v := ?_) rfl (by kernel_rfl) (by kernel_rfl) (by kernel_rfl) (fun _ _ _ h => h) (Or.inl ⟨by kernel_rfl, ?_⟩) (by assumption) ?_; rotate_left; (focus ((intro w hSw; (try dsimp only at hSw); go_simp) <;> with_reducible rfl)); (try dsimp [Act.put]); (try simp only [List.setIfInBounds_toArray, List.set_cons_zero, List.set_cons_succ])
  refine wpAnyH_take (i := 2) (v := ?_) rfl (by kernel_rfl) (by kernel_rfl) (by kernel_rfl) (fun _ _ _ h => h) (Or.inl ⟨by kernel_rfl, ?_⟩) (by assumption) ?_; rotate_left; (focus ((intro w hSw; (try dsimp only at hSw); go_simp) <;> with_reducible rfl)); (try dsimp [Act.put]); (try simp only [List.setIfInBounds_toArray, List.set_cons_zero, List.set_cons_succ])
  refine wpAnyH_take (i := 3) (v := ?_) rfl (by kernel_rfl) (by kernel_rfl) (by kernel_rfl) (fun _ _ _ h => h) (Or.inl ⟨by kernel_rfl, ?_⟩) (by assumption) ?_; rotate_left; (focus ((intro w hSw; (try dsimp only at hSw); go_simp) <;> with_reducible rfl)); (try dsimp [Act.put]); (try simp only [List.setIfInBounds_toArray, List.set_cons_zero, List.set_cons_succ])
  refine wpAnyH_ready (rs := [4]) (by kernel_rfl) (by simp) ?_
  refine AllReadyH.cons (o := { dst := some 131, op := .call { callee := .value (.func 45), args := #[.tmp 129, .tmp 130], argTypes := #[40, 40] }, type := _, pos := _, after := _, guard := _ }) rfl (fun KK hKK => ?_) AllReadyH.nil
  refine step_callw2 (hC1.out _ (by first | assumption | exact hHeld.1)) (fun _ => by kernel_rfl) (by kernel_rfl) (.tmp 129) (.tmp 130) rfl rfl rfl ?_
  rintro e wa' ⟨rfl, hba⟩
  refine ⟨_, rfl, ?_⟩
  refine hKK.out _ _ ?_ (fun hHeld => ?_)
  focus (first | exact ⟨hbD, hK.out _ hbD⟩ | exact ⟨by assumption, hK.out _ (by assumption)⟩)
  clear hKK KK
  (try dsimp [Act.put]); (try simp only [List.setIfInBounds_toArray, List.set_cons_zero, List.set_cons_succ])
  refine wpAnyH_take (i := 5) (v := ?_) rfl (by kernel_rfl) (by kernel_rfl) (by kernel_rfl) (fun _ _ _ h => h) (Or.inl ⟨by kernel_rfl, ?_⟩) (by assumption) ?_; rotate_left; (focus ((intro w hSw; (try dsimp only at hSw); go_simp) <;> with_reducible rfl)); (try dsimp [Act.put]); (try simp only [List.setIfInBounds_toArray, List.set_cons_zero, List.set_cons_succ])
  refine wpAnyH_take (i := 6) (v := ?_) rfl (by kernel_rfl) (by kernel_rfl) (by kernel_rfl) (fun _ _ _ h => h) (Or.inl ⟨by kernel_rfl, ?_⟩) (by assumption) ?_; rotate_left; (focus ((intro w hSw; (try dsimp only at hSw); go_simp) <;> with_reducible rfl)); (try dsimp [Act.put]); (try simp only [List.setIfInBounds_toArray, List.set_cons_zero, List.set_cons_succ])
  refine wpAnyH_take (i := 7) (v := ?_) rfl (by kernel_rfl) (by kernel_rfl) (by kernel_rfl) (fun _ _ _ h => h) (Or.inl ⟨by kernel_rfl, ?_⟩) (by assumption) ?_; rotate_left; (focus ((intro w hSw; (try dsimp only at hSw); go_simp) <;> with_reducible rfl)); (try dsimp [Act.put]); (try simp only [List.setIfInBounds_toArray, List.set_cons_zero, List.set_cons_succ])
  refine wpAnyH_take (i := 9) (v := ?_) rfl (by kernel_rfl) (by kernel_rfl) (by kernel_rfl) (fun _ _ _ h => h) (Or.inl ⟨by kernel_rfl, ?_⟩) (by assumption) ?_; rotate_left; (focus ((intro w hSw; (try dsimp only at hSw); go_simp) <;> with_reducible rfl)); (try dsimp [Act.put]); (try simp only [List.setIfInBounds_toArray, List.set_cons_zero, List.set_cons_succ])
  refine wpAnyH_ready (rs := [8]) (by kernel_rfl) (by simp) ?_
  refine AllReadyH.cons (o := { dst := some 135, op := .call { callee := .value (.func 42), args := #[.tmp 134], argTypes := #[40] }, type := _, pos := _, after := _, guard := _ }) rfl (fun KK hKK => ?_) AllReadyH.nil
  refine step_callw (hC2.out _ (by first | assumption | exact hHeld.1)) (fun _ => by kernel_rfl) (by kernel_rfl) (.tmp 134) rfl rfl ?_
  rintro e wb' ⟨x8, rfl, hx8, hbb⟩
  refine ⟨_, rfl, ?_⟩
  refine hKK.out _ _ ?_ (fun hHeld => ?_)
  focus (first | exact ⟨hbD, hK.out _ hbD⟩ | exact ⟨by assumption, hK.out _ (by assumption)⟩)
  clear hKK KK
  (try dsimp [Act.put]); (try simp only [List.setIfInBounds_toArray, List.set_cons_zero, List.set_cons_succ])
  refine wpAnyH_ready (rs := [10]) (by kernel_rfl) (by simp) ?_
  refine AllReadyH.cons (o := { dst := some 137, op := .call { callee := .value (.func 45), args := #[.tmp 135, .tmp 136], argTypes := #[40, 40] }, type := _, pos := _, after := _, guard := _ }) rfl (fun KK hKK => ?_) AllReadyH.nil
  refine step_callw2 (hC3.out _ _ hx8 hbb) (fun _ => by kernel_rfl) (by kernel_rfl) (.tmp 135) (.tmp 136) rfl rfl rfl ?_
  rintro e wc' ⟨rfl, hbc⟩
  refine ⟨_, rfl, ?_⟩
  refine hKK.out _ _ ?_ (fun hHeld => ?_)
  focus (first | exact ⟨hbD, hK.out _ hbD⟩ | exact ⟨by assumption, hK.out _ (by assumption)⟩)
  clear hKK KK
  (try dsimp [Act.put]); (try simp only [List.setIfInBounds_toArray, List.set_cons_zero, List.set_cons_succ])
  refine wpAnyH_take (i := 11) (v := ?_) rfl (by kernel_rfl) (by kernel_rfl) (by kernel_rfl) (fun _ _ _ h => h) (Or.inl ⟨by kernel_rfl, ?_⟩) (by assumption) ?_; rotate_left; (focus ((intro w hSw; (try dsimp only at hSw); go_simp) <;> with_reducible rfl)); (try dsimp [Act.put]); (try simp only [List.setIfInBounds_toArray, List.set_cons_zero, List.set_cons_succ])
  refine wpAnyH_take (i := 12) (v := ?_) rfl (by kernel_rfl) (by kernel_rfl) (by kernel_rfl) (fun _ _ _ h => h) (Or.inl ⟨by kernel_rfl, ?_⟩) (by assumption) ?_; rotate_left; (focus ((intro w hSw; (try dsimp only at hSw); go_simp) <;> with_reducible rfl)); (try dsimp [Act.put]); (try simp only [List.setIfInBounds_toArray, List.set_cons_zero, List.set_cons_succ])
  refine wpAnyH_take (i := 13) (v := ?_) rfl (by kernel_rfl) (by kernel_rfl) (by kernel_rfl) (fun _ _ _ h => h) (Or.inl ⟨by kernel_rfl, ?_⟩) (by assumption) ?_; rotate_left; (focus ((intro w hSw; (try dsimp only at hSw); go_simp) <;> with_reducible rfl)); (try dsimp [Act.put]); (try simp only [List.setIfInBounds_toArray, List.set_cons_zero, List.set_cons_succ])
  refine wpAnyH_take (i := 16) (v := ?_) rfl (by kernel_rfl) (by kernel_rfl) (by kernel_rfl) (fun _ _ _ h => h) (Or.inl ⟨by kernel_rfl, ?_⟩) (by assumption) ?_; rotate_left; (focus ((intro w hSw; (try dsimp only at hSw); go_simp) <;> with_reducible rfl)); (try dsimp [Act.put]); (try simp only [List.setIfInBounds_toArray, List.set_cons_zero, List.set_cons_succ])
  refine wpAnyH_ready (rs := [14]) (by kernel_rfl) (by simp) ?_
  refine AllReadyH.cons (o := { dst := some 141, op := .call { callee := .value (.func 46), args := #[.tmp 140], argTypes := #[40] }, type := _, pos := _, after := _, guard := _ }) rfl (fun KK hKK => ?_) AllReadyH.nil
  refine step_callw (hC4.out _ hbc) (fun _ => by kernel_rfl) (by kernel_rfl) (.tmp 140) rfl rfl ?_
  rintro e wd' ⟨x9, rfl, hx9, hbd⟩
  refine ⟨_, rfl, ?_⟩
  refine hKK.out _ _ ?_ (fun hHeld => ?_)
  focus (first | exact ⟨hbD, hK.out _ hbD⟩ | exact ⟨by assumption, hK.out _ (by assumption)⟩)
  clear hKK KK
  (try dsimp [Act.put]); (try simp only [List.setIfInBounds_toArray, List.set_cons_zero, List.set_cons_succ])
  refine wpAnyH_ready (rs := [15]) (by kernel_rfl) (by simp) ?_
  refine AllReadyH.cons (o := { dst := some 142, op := .call { callee := .value (.func 46), args := #[.tmp 141], argTypes := #[40] }, type := _, pos := _, after := _, guard := _ }) rfl (fun KK hKK => ?_) AllReadyH.nil
  refine step_callw (hC5.out _ _ hx9 hbd) (fun _ => by kernel_rfl) (by kernel_rfl) (.tmp 141) rfl rfl ?_
  rintro e we' ⟨xa', rfl, hxa, hbe⟩
  refine ⟨_, rfl, ?_⟩
  refine hKK.out _ _ ?_ (fun hHeld => ?_)
  focus (first | exact ⟨hbD, hK.out _ hbD⟩ | exact ⟨by assumption, hK.out _ (by assumption)⟩)
  clear hKK KK
  (try dsimp [Act.put]); (try simp only [List.setIfInBounds_toArray, List.set_cons_zero, List.set_cons_succ])
  refine wpAnyH_ready (rs := [17]) (by kernel_rfl) (by simp) ?_
  refine AllReadyH.cons (o := { dst := some 144, op := .call { callee := .value (.func 45), args := #[.tmp 142, .tmp 143], argTypes := #[40, 40] }, type := _, pos := _, after := _, guard := _ }) rfl (fun KK hKK => ?_) AllReadyH.nil
  refine step_callw2 (hC6.out _ _ hxa hbe) (fun _ => by kernel_rfl) (by kernel_rfl) (.tmp 142) (.tmp 143) rfl rfl rfl ?_
  rintro e wf' ⟨rfl, hbf⟩
  refine ⟨_, rfl, ?_⟩
  refine hKK.out _ _ ?_ (fun hHeld => ?_)
  focus (first | exact ⟨hbD, hK.out _ hbD⟩ | exact ⟨by assumption, hK.out _ (by assumption)⟩)
  clear hKK KK
  (try dsimp [Act.put]); (try simp only [List.setIfInBounds_toArray, List.set_cons_zero, List.set_cons_succ])
  refine wpAnyH_take (i := 18) (v := ?_) rfl (by kernel_rfl) (by kernel_rfl) (by kernel_rfl) (fun _ _ _ h => h) (Or.inl ⟨by kernel_rfl, ?_⟩) (by assumption) ?_; rotate_left; (focus ((intro w hSw; (try dsimp only at hSw); go_simp) <;> with_reducible rfl)); (try dsimp [Act.put]); (try simp only [List.setIfInBounds_toArray, List.set_cons_zero, List.set_cons_succ])
  refine wpAnyH_take (i := 19) (v := ?_) rfl (by kernel_rfl) (by kernel_rfl) (by kernel_rfl) (fun _ _ _ h => h) (Or.inl ⟨by kernel_rfl, ?_⟩) (by assumption) ?_; rotate_left; (focus ((intro w hSw; (try dsimp only at hSw); go_simp) <;> with_reducible rfl)); (try dsimp [Act.put]); (try simp only [List.setIfInBounds_toArray, List.set_cons_zero, List.set_cons_succ])
  refine wpAnyH_done (by kernel_rfl) ?_ _
  refine NoPanic.normal ?_
  have hbZ := hid (hb.trans (hbf.mono hb.size))
  go_wp2_with fail
  go_ret
  exact ⟨rfl, hbZ.out⟩

end Go.Proofs.YtkgdbobhppmaiaaDoor
