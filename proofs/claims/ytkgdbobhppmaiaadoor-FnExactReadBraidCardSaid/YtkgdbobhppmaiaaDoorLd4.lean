/- Reading needles: contracts and the law's walk. -/
import Derived.Test.YtkgdbobhppmaiaaDoorLd2
import Derived.Test.YtkgdbobhppmaiaaDoorLd3
namespace Go.Proofs.YtkgdbobhppmaiaaDoor
open Go.RowKit
open Go.Lib (itoa)

/-- the bed that a letter tells -/
def bedOf (c : UInt8) : Int := if c.toNat = 98 then 2 else 1
/-- the needle with the text l -/
def rnO (l : List UInt8) : Option (Int × Int) := match l with
  | [] => none
  | c :: r => if (c.toNat = 102 ∨ c.toNat = 98) ∧ rdB r = true ∧ needleF (bedOf c) (rdN r) = true then some (bedOf c, rdN r) else none
def rnBed (l : List UInt8) : Int := ((rnO l).getD (0, 0)).1
def rnAt (l : List UInt8) : Int := ((rnO l).getD (0, 0)).2
def rnB (l : List UInt8) : Bool := (rnO l).isSome
theorem rn_none {l : List UInt8} (h : rnO l = none) : rnBed l = 0 ∧ rnAt l = 0 ∧ rnB l = false := by unfold rnBed rnAt rnB; rw [h]; exact ⟨rfl, rfl, rfl⟩
theorem rn_some {l : List UInt8} {b a : Int} (h : rnO l = some (b, a)) : rnBed l = b ∧ rnAt l = a ∧ rnB l = true := by unfold rnBed rnAt rnB; rw [h]; exact ⟨rfl, rfl, rfl⟩
theorem rn_no1 {c : UInt8} {r : List UInt8} (h : ¬ (c.toNat = 102 ∨ c.toNat = 98)) : rnO (c :: r) = none := if_neg fun k => h k.1
theorem rn_no2 {c : UInt8} {r : List UInt8} (h : rdB r = false) : rnO (c :: r) = none := if_neg fun k => by rw [h] at k; cases k.2.1
theorem rn_no3 {c : UInt8} {r : List UInt8} (h : needleF (bedOf c) (rdN r) = false) : rnO (c :: r) = none := if_neg fun k => by rw [h] at k; cases k.2.2
theorem rn_yes {c : UInt8} {r : List UInt8} (h1 : c.toNat = 102 ∨ c.toNat = 98) (h2 : rdB r = true) (h3 : needleF (bedOf c) (rdN r) = true) : rnO (c :: r) = some (bedOf c, rdN r) := if_pos ⟨h1, h2, h3⟩
theorem rd_itoa {r : List UInt8} (h : rdB r = true) : itoa (rdN r) = r := by
  rcases rd_self r with ⟨-, h1, -⟩ | ⟨h1, -⟩
  · exact h1
  · rw [h] at h1; cases h1
theorem rd_nil : rdB [] = false := rfl
/-- the text of the needle that was read is the text at hand exactly if there is one -/
theorem nt_iff {c : UInt8} {r : List UInt8} (h : rdB r = true) : ntF (bedOf c) (rdN r) = c :: r ↔ rnO (c :: r) = some (bedOf c, rdN r) := by
  constructor
  · intro e
    unfold ntF at e
    split at e
    · rename_i hn
      unfold ntL at e
      rw [rd_itoa h] at e
      have hc : (if bedOf c = 1 then (102 : UInt8) else 98) = c := (List.cons.inj e).1
      refine rn_yes ?_ h hn
      split at hc
      · left; rw [← hc]; rfl
      · right; rw [← hc]; rfl
    · cases e
  · intro e
    have hh : (c.toNat = 102 ∨ c.toNat = 98) ∧ rdB r = true ∧ needleF (bedOf c) (rdN r) = true := by
      rcases Classical.em ((c.toNat = 102 ∨ c.toNat = 98) ∧ rdB r = true ∧ needleF (bedOf c) (rdN r) = true) with k | k
      · exact k
      · have : rnO (c :: r) = none := if_neg k
        rw [this] at e; cases e
    unfold ntF
    rw [if_pos hh.2.2]
    unfold ntL
    rw [rd_itoa h]
    have hc : (if bedOf c = 1 then (102 : UInt8) else 98) = c := by
      unfold bedOf
      rcases hh.1 with k | k
      · rw [if_neg (show ¬ c.toNat = 98 by omega), if_pos rfl]; exact UInt8.toNat_inj.1 (by rw [k]; rfl)
      · rw [if_pos k, if_neg (show ¬ (2 : Int) = 1 by omega)]; exact UInt8.toNat_inj.1 (by rw [k]; rfl)
    rw [hc]
theorem first_byte {s : ByteArray} (h0 : 0 < s.size) : ∃ c r, s.data.toList = c :: r ∧ byteAt s 0 = (c.toNat : Int) ∧ s.size = r.length + 1 := by
  cases h : s.data.toList with
  | nil => exact absurd (show s.data.toList.length = 0 by rw [h]; rfl) (by show ¬ s.size = 0; omega)
  | cons c r => exact ⟨c, r, rfl, by unfold byteAt; rw [h]; rfl, by show s.data.toList.length = _; rw [h]; rfl⟩
theorem ne_empty {s : ByteArray} (h0 : 0 < s.size) : s.toList.isEmpty = false := by
  cases e : s.toList.isEmpty with
  | false => rfl
  | true => rw [empty_iff] at e; omega


set_option maxRecDepth 100000 in
set_option maxHeartbeats 8000000 in
theorem ReadNeedleI (s : ByteArray) (w : World) (hs : s.size ≤ 1048576) (hT : Tb w) (hE : Er w) :
    Calls Tryd.prog 30 #[.string s] w fun e w' => e = .returned (.tuple #[.agg #[.int .i64 (rnBed s.data.toList), .int .i64 (rnAt s.data.toList)], .bool (rnB s.data.toList)]) ∧ Below w.heap.size w w' := by
  by_cases h0 : s.size = 0
  · have hse : s.toList.isEmpty = true := by rw [empty_iff]; exact h0
    have hl0 : s.data.toList = [] := List.eq_nil_of_length_eq_zero h0
    have hno := hid (rn_none (show rnO s.data.toList = none by rw [hl0]; rfl))
    clear hl0 h0
    go_enter Tryd.func30, Tryd.ntmps30
    go_wp2_with fail
    refine bodyPost_ret (v := .tuple #[.agg #[.int .i64 0, .int .i64 0], .bool false]) (by simp [results, Tryd.results30, go_sem]) rfl ⟨by rw [hno.out.1, hno.out.2.1, hno.out.2.2], ?_⟩
    exact (Below.refl _ _).alloc (Nat.le_refl _) _
  have h0' : 0 < s.size := by omega
  have hse := ne_empty h0'
  have hby0 : ((s[0].toNat : Nat) : Int) = byteAt s 0 := byteAt_eq s h0'
  obtain ⟨c, r, hcr, hbc, hsl⟩ := first_byte h0'
  obtain ⟨t, hex⟩ : ∃ t, s.extract 1 s.size = t := ⟨_, rfl⟩
  have htl : t.data.toList = r := by rw [← hex, Lib.extract_to_end, hcr]; rfl
  have htz : t.size ≤ 1048576 := by show t.data.toList.length ≤ _; rw [htl]; omega
  rw [hcr]
  clear h0 hcr
  by_cases hc2 : c.toNat = 98
  · have hbd := hid (show bedOf c = 2 by unfold bedOf; rw [if_pos hc2])
    have hcc := hid (show c.toNat = 102 ∨ c.toNat = 98 from .inr hc2)
    have hx : byteAt s 0 = 98 := by rw [hbc, hc2]; rfl
    rw [hx] at hby0
    clear hbc hsl hc2 hx
    have hCt := hid (fun (w' : World) (h : Below w.heap.size w w') => ReadDecI t w' (by omega) (hT.below h) (hE.below h))
    rw [htl] at hCt
    have hb0 : Below w.heap.size w (w.alloc (.cells #[.int .i64 0, .int .i64 0] 27)) := (Below.refl _ _).alloc (Nat.le_refl _) _
    have hR0 := Bx.new w #[.int .i64 0, .int .i64 0] 27
    replace hb0 := hid hb0
    replace hR0 := hid hR0
    go_enter Tryd.func30, Tryd.ntmps30
    go_wp2_with fail
    refine (hCt.out _ hb0.out).mono ?_
    rintro e w1 ⟨rfl, hs⟩
    have hb1 := hb0.out.trans (hs.mono hb0.out.size)
    have hR1 := hR0.out.below hs
    have hg := hR1.lt
    clear hs hb0 hR0 hCt
    have hR := hR1.alloc (.cells #[.int .i64 2, .int .i64 (rdN r)] 27)
    have hb := hb1.alloc hb1.size (.cells #[.int .i64 2, .int .i64 (rdN r)] 27)
    have hO := Bx.new w1 #[.int .i64 2, .int .i64 (rdN r)] 27
    cases e1 : rdB r with
    | false =>
      have hno := hid (rn_none (rn_no2 (c := c) e1))
      clear hO hR hb
      generalize rdN r = n at *
      have f0 := hR1.frozen 0
      have f1 := hR1.frozen 1
      have q0 := hR1.cell 0 rfl
      have q1 := hR1.cell 1 rfl
      have gR := (hR1.set 0 (.int .i64 0)).set 1 (.int .i64 0)
      have g0 := (gR.alloc (.cells #[.int .i64 2, .int .i64 n] 27)).cell 0 rfl
      have g1 := (gR.alloc (.cells #[.int .i64 2, .int .i64 n] 27)).cell 1 rfl
      have hend1 := (hb1.setCell (p := ⟨w.heap.size, 0, none⟩) (Nat.le_refl _) (.int .i64 0)).setCell (p := ⟨w.heap.size, 1, none⟩) (Nat.le_refl _) (.int .i64 0)
      have hend := hid (fun o : Obj => hend1.alloc hend1.size o)
      replace hR1 := hid hR1
      replace hb1 := hid hb1
      clear hend1
      replace gR := hid gR
      go_wp2_with fail
      refine bodyPost_ret (v := .tuple #[.agg #[.int .i64 0, .int .i64 0], .bool false]) (by simp [g0, g1, results, Tryd.results30, go_sem]) rfl ⟨by rw [hno.out.1, hno.out.2.1, hno.out.2.2], hend.out _⟩
    | true =>
      have o0 := hO.cell 0 rfl
      have o1 := hO.cell 1 rfl
      replace hR := hid hR
      replace hb := hid hb
      replace hO := hid hO
      replace e1 := hid e1
      have hR1' := hid hR1
      clear hR1
      go_wp2_with fail
      refine (ValidNeedleI 2 (rdN r) _).mono ?_
      rintro e w2 ⟨rfl, hs⟩
      replace hR := hR.out.below hs
      replace hO := hO.out.below hs
      replace hb := hb.out.trans (hs.mono hb.out.size)
      clear hs o0 o1 hR1' hb1
      cases e2 : needleF 2 (rdN r) with
      | false =>
        have hno := hid (rn_none (rn_no3 (c := c) (r := r) (by rw [hbd.out]; exact e2)))
        clear hO e2
        generalize rdN r = n at *
        have f0 := hR.frozen 0
        have f1 := hR.frozen 1
        have q0 := hR.cell 0 rfl
        have q1 := hR.cell 1 rfl
        have gR := (hR.set 0 (.int .i64 0)).set 1 (.int .i64 0)
        have g0 := gR.cell 0 rfl
        have g1 := gR.cell 1 rfl
        have hend := hid ((hb.setCell (p := ⟨w.heap.size, 0, none⟩) (Nat.le_refl _) (.int .i64 0)).setCell (p := ⟨w.heap.size, 1, none⟩) (Nat.le_refl _) (.int .i64 0))
        replace hR := hid hR
        replace hb := hid hb
        replace gR := hid gR
        go_wp2_with fail
        refine bodyPost_ret (v := .tuple #[.agg #[.int .i64 0, .int .i64 0], .bool false]) (by simp [g0, g1, results, Tryd.results30, go_sem]) rfl ⟨by rw [hno.out.1, hno.out.2.1, hno.out.2.2], hend.out⟩
      | true =>
        have hyes := hid (rn_some (rn_yes (c := c) (r := r) hcc.out e1.out (by rw [hbd.out]; exact e2)))
        clear e2
        generalize rdN r = n at *
        have o0 := hO.cell 0 rfl
        have o1 := hO.cell 1 rfl
        have f0 := hR.frozen 0
        have f1 := hR.frozen 1
        have q0 := hR.cell 0 rfl
        have q1 := hR.cell 1 rfl
        have gR := (hR.set 0 (.int .i64 2)).set 1 (.int .i64 n)
        have g0 := gR.cell 0 rfl
        have g1 := gR.cell 1 rfl
        have hend := hid ((hb.setCell (p := ⟨w.heap.size, 0, none⟩) (Nat.le_refl _) (.int .i64 2)).setCell (p := ⟨w.heap.size, 1, none⟩) (Nat.le_refl _) (.int .i64 n))
        replace hR := hid hR
        replace hO := hid hO
        replace hb := hid hb
        replace gR := hid gR
        go_wp2_with fail
        refine bodyPost_ret (v := .tuple #[.agg #[.int .i64 2, .int .i64 n], .bool true]) (by simp [g0, g1, results, Tryd.results30, go_sem]) rfl ⟨by rw [hyes.out.1, hyes.out.2.1, hyes.out.2.2, hbd.out], hend.out⟩
  by_cases hc1 : c.toNat = 102
  · have hbd := hid (show bedOf c = 1 by unfold bedOf; rw [if_neg hc2])
    have hcc := hid (show c.toNat = 102 ∨ c.toNat = 98 from .inl hc1)
    have hx : byteAt s 0 = 102 := by rw [hbc, hc1]; rfl
    rw [hx] at hby0
    clear hbc hsl hc2 hc1 hx
    have hCt := hid (fun (w' : World) (h : Below w.heap.size w w') => ReadDecI t w' (by omega) (hT.below h) (hE.below h))
    rw [htl] at hCt
    have hb0 : Below w.heap.size w (w.alloc (.cells #[.int .i64 0, .int .i64 0] 27)) := (Below.refl _ _).alloc (Nat.le_refl _) _
    have hR0 := Bx.new w #[.int .i64 0, .int .i64 0] 27
    replace hb0 := hid hb0
    replace hR0 := hid hR0
    go_enter Tryd.func30, Tryd.ntmps30
    go_wp2_with fail
    refine (hCt.out _ hb0.out).mono ?_
    rintro e w1 ⟨rfl, hs⟩
    have hb1 := hb0.out.trans (hs.mono hb0.out.size)
    have hR1 := hR0.out.below hs
    have hg := hR1.lt
    clear hs hb0 hR0 hCt
    have hR := hR1.alloc (.cells #[.int .i64 1, .int .i64 (rdN r)] 27)
    have hb := hb1.alloc hb1.size (.cells #[.int .i64 1, .int .i64 (rdN r)] 27)
    have hO := Bx.new w1 #[.int .i64 1, .int .i64 (rdN r)] 27
    cases e1 : rdB r with
    | false =>
      have hno := hid (rn_none (rn_no2 (c := c) e1))
      clear hO hR hb
      generalize rdN r = n at *
      have f0 := hR1.frozen 0
      have f1 := hR1.frozen 1
      have q0 := hR1.cell 0 rfl
      have q1 := hR1.cell 1 rfl
      have gR := (hR1.set 0 (.int .i64 0)).set 1 (.int .i64 0)
      have g0 := (gR.alloc (.cells #[.int .i64 1, .int .i64 n] 27)).cell 0 rfl
      have g1 := (gR.alloc (.cells #[.int .i64 1, .int .i64 n] 27)).cell 1 rfl
      have hend1 := (hb1.setCell (p := ⟨w.heap.size, 0, none⟩) (Nat.le_refl _) (.int .i64 0)).setCell (p := ⟨w.heap.size, 1, none⟩) (Nat.le_refl _) (.int .i64 0)
      have hend := hid (fun o : Obj => hend1.alloc hend1.size o)
      replace hR1 := hid hR1
      replace hb1 := hid hb1
      clear hend1
      replace gR := hid gR
      go_wp2_with fail
      refine bodyPost_ret (v := .tuple #[.agg #[.int .i64 0, .int .i64 0], .bool false]) (by simp [g0, g1, results, Tryd.results30, go_sem]) rfl ⟨by rw [hno.out.1, hno.out.2.1, hno.out.2.2], hend.out _⟩
    | true =>
      have o0 := hO.cell 0 rfl
      have o1 := hO.cell 1 rfl
      replace hR := hid hR
      replace hb := hid hb
      replace hO := hid hO
      replace e1 := hid e1
      have hR1' := hid hR1
      clear hR1
      go_wp2_with fail
      refine (ValidNeedleI 1 (rdN r) _).mono ?_
      rintro e w2 ⟨rfl, hs⟩
      replace hR := hR.out.below hs
      replace hO := hO.out.below hs
      replace hb := hb.out.trans (hs.mono hb.out.size)
      clear hs o0 o1 hR1' hb1
      cases e2 : needleF 1 (rdN r) with
      | false =>
        have hno := hid (rn_none (rn_no3 (c := c) (r := r) (by rw [hbd.out]; exact e2)))
        clear hO e2
        generalize rdN r = n at *
        have f0 := hR.frozen 0
        have f1 := hR.frozen 1
        have q0 := hR.cell 0 rfl
        have q1 := hR.cell 1 rfl
        have gR := (hR.set 0 (.int .i64 0)).set 1 (.int .i64 0)
        have g0 := gR.cell 0 rfl
        have g1 := gR.cell 1 rfl
        have hend := hid ((hb.setCell (p := ⟨w.heap.size, 0, none⟩) (Nat.le_refl _) (.int .i64 0)).setCell (p := ⟨w.heap.size, 1, none⟩) (Nat.le_refl _) (.int .i64 0))
        replace hR := hid hR
        replace hb := hid hb
        replace gR := hid gR
        go_wp2_with fail
        refine bodyPost_ret (v := .tuple #[.agg #[.int .i64 0, .int .i64 0], .bool false]) (by simp [g0, g1, results, Tryd.results30, go_sem]) rfl ⟨by rw [hno.out.1, hno.out.2.1, hno.out.2.2], hend.out⟩
      | true =>
        have hyes := hid (rn_some (rn_yes (c := c) (r := r) hcc.out e1.out (by rw [hbd.out]; exact e2)))
        clear e2
        generalize rdN r = n at *
        have o0 := hO.cell 0 rfl
        have o1 := hO.cell 1 rfl
        have f0 := hR.frozen 0
        have f1 := hR.frozen 1
        have q0 := hR.cell 0 rfl
        have q1 := hR.cell 1 rfl
        have gR := (hR.set 0 (.int .i64 1)).set 1 (.int .i64 n)
        have g0 := gR.cell 0 rfl
        have g1 := gR.cell 1 rfl
        have hend := hid ((hb.setCell (p := ⟨w.heap.size, 0, none⟩) (Nat.le_refl _) (.int .i64 1)).setCell (p := ⟨w.heap.size, 1, none⟩) (Nat.le_refl _) (.int .i64 n))
        replace hR := hid hR
        replace hO := hid hO
        replace hb := hid hb
        replace gR := hid gR
        go_wp2_with fail
        refine bodyPost_ret (v := .tuple #[.agg #[.int .i64 1, .int .i64 n], .bool true]) (by simp [g0, g1, results, Tryd.results30, go_sem]) rfl ⟨by rw [hyes.out.1, hyes.out.2.1, hyes.out.2.2, hbd.out], hend.out⟩
  have hno := hid (rn_none (rn_no1 (c := c) (r := r) (by omega)))
  have e1 : (byteAt s 0 != 102) = true := by rw [hbc, bne_iff_ne]; omega
  have e2 : (byteAt s 0 != 98) = true := by rw [hbc, bne_iff_ne]; omega
  clear hbc hsl hc2 hc1 htl
  go_enter Tryd.func30, Tryd.ntmps30
  go_wp2_with fail
  refine bodyPost_ret (v := .tuple #[.agg #[.int .i64 0, .int .i64 0], .bool false]) (by simp [results, Tryd.results30, go_sem]) rfl ⟨by rw [hno.out.1, hno.out.2.1, hno.out.2.2], ?_⟩
  exact (Below.refl _ _).alloc (Nat.le_refl _) _


set_option maxRecDepth 100000 in
set_option maxHeartbeats 8000000 in
theorem ReadNeedleS (s : ByteArray) (w : World) (hs : s.size ≤ 1048576) :
    Calls Tryd.prog 33 #[.string s] w fun e w' => e = .returned (.tuple #[.agg #[.int .i64 (rnBed s.data.toList), .int .i64 (rnAt s.data.toList)], .bool (rnB s.data.toList)]) ∧ Below w.heap.size w w' := by
  by_cases h0 : s.size = 0
  · have hl0 : s.data.toList = [] := List.eq_nil_of_length_eq_zero h0
    have hno := hid (rn_none (show rnO s.data.toList = none by rw [hl0]; rfl))
    have hz : (s.size : Int) < 2 := by omega
    clear hl0 h0
    go_enter Tryd.func33, Tryd.ntmps33
    go_wp2_with fail
    refine bodyPost_ret (v := .tuple #[.agg #[.int .i64 0, .int .i64 0], .bool false]) (by simp [results, Tryd.results33, go_sem]) rfl ⟨by rw [hno.out.1, hno.out.2.1, hno.out.2.2], ?_⟩
    exact (Below.refl _ _).alloc (Nat.le_refl _) _
  have h0' : 0 < s.size := by omega
  have hby0 : ((s[0].toNat : Nat) : Int) = byteAt s 0 := byteAt_eq s h0'
  obtain ⟨c, r, hcr, hbc, hsl⟩ := first_byte h0'
  obtain ⟨t, hex⟩ : ∃ t, s.extract 1 s.size = t := ⟨_, rfl⟩
  have htl : t.data.toList = r := by rw [← hex, Lib.extract_to_end, hcr]; rfl
  have htz : t.size ≤ 1048576 := by show t.data.toList.length ≤ _; rw [htl]; omega
  have hsc : s = ⟨(c :: r).toArray⟩ := by rw [← hcr]
  rw [hcr]
  clear h0 hcr
  by_cases h1 : s.size = 1
  · have hr : r = [] := List.eq_nil_of_length_eq_zero (by omega)
    have hno := hid (rn_none (show rnO (c :: r) = none by rw [hr]; exact rn_no2 rd_nil))
    have hz : (s.size : Int) < 2 := by omega
    clear hr h1 hsc hsl
    go_enter Tryd.func33, Tryd.ntmps33
    go_wp2_with fail
    refine bodyPost_ret (v := .tuple #[.agg #[.int .i64 0, .int .i64 0], .bool false]) (by simp [results, Tryd.results33, go_sem]) rfl ⟨by rw [hno.out.1, hno.out.2.1, hno.out.2.2], ?_⟩
    exact (Below.refl _ _).alloc (Nat.le_refl _) _
  have hz : ¬ (s.size : Int) < 2 := by omega
  replace hsc := hid hsc
  by_cases hc2 : c.toNat = 98
  · have hbd := hid (show bedOf c = 2 by unfold bedOf; rw [if_pos hc2])
    have hx : byteAt s 0 = 98 := by rw [hbc, hc2]; rfl
    rw [hx] at hby0
    clear hbc hsl hc2 hx h1
    have hCt := hid (fun (w' : World) => NumS t w' (by omega))
    rw [htl] at hCt
    have hb0 : Below w.heap.size w ((w.alloc (.cells #[.int .i64 0, .int .i64 0] 27)).alloc (.cells #[.int .i64 2, .int .i64 0] 27)) := ((Below.refl _ _).alloc (Nat.le_refl _) _).alloc (by simp) _
    have hR0 := (Bx.new w #[.int .i64 0, .int .i64 0] 27).alloc (.cells #[.int .i64 2, .int .i64 0] 27)
    have hO0 := Bx.new (w.alloc (.cells #[.int .i64 0, .int .i64 0] 27)) #[.int .i64 2, .int .i64 0] 27
    simp only [World.size_alloc] at hO0
    replace hb0 := hid hb0
    replace hR0 := hid hR0
    replace hO0 := hid hO0
    go_enter Tryd.func33, Tryd.ntmps33
    go_wp2_with fail
    refine (hCt.out _).mono ?_
    rintro e w1 ⟨rfl, hs⟩
    have hb1 := hb0.out.trans (hs.mono hb0.out.size)
    have hR1 := hR0.out.below hs
    have hO1 := hO0.out.below hs
    clear hs hb0 hR0 hO0 hCt
    have o0 := hO1.cell 0 rfl
    have o1 := hO1.cell 1 rfl
    have of1 := hO1.frozen 1
    cases e1 : rdB r with
    | false =>
      have hno := hid (rn_none (rn_no2 (c := c) e1))
      clear e1
      generalize rdN r = n at *
      have hR := hR1.other (a := ⟨w.heap.size + 1, 1, none⟩) (by simp) (.int .i64 n)
      have hb := hb1.setCell (p := ⟨w.heap.size + 1, 1, none⟩) (by simp) (.int .i64 n)
      clear hR1 hb1 hO1 o0 hsc
      have f0 := hR.frozen 0
      have f1 := hR.frozen 1
      have q0 := hR.cell 0 rfl
      have q1 := hR.cell 1 rfl
      have gR := (hR.set 0 (.int .i64 0)).set 1 (.int .i64 0)
      have g0 := gR.cell 0 rfl
      have g1 := gR.cell 1 rfl
      have hend := hid ((hb.setCell (p := ⟨w.heap.size, 0, none⟩) (Nat.le_refl _) (.int .i64 0)).setCell (p := ⟨w.heap.size, 1, none⟩) (Nat.le_refl _) (.int .i64 0))
      replace hR := hid hR
      replace hb := hid hb
      replace gR := hid gR
      go_wp2_with fail
      refine bodyPost_ret (v := .tuple #[.agg #[.int .i64 0, .int .i64 0], .bool false]) (by simp [g0, g1, results, Tryd.results33, go_sem]) rfl ⟨by rw [hno.out.1, hno.out.2.1, hno.out.2.2], hend.out⟩
    | true =>
      have hnt := hid (nt_iff (c := c) e1)
      rw [hbd.out] at hnt
      have hri := hid (rd_itoa e1)
      clear e1
      generalize hrn : rdN r = n at *
      replace hrn := hid hrn
      have hO := hO1.set 1 (.int .i64 n)
      have hR := hR1.other (a := ⟨w.heap.size + 1, 1, none⟩) (by simp) (.int .i64 n)
      have hb := hb1.setCell (p := ⟨w.heap.size + 1, 1, none⟩) (by simp) (.int .i64 n)
      have p0 := hO.cell 0 rfl
      have p1 := hO.cell 1 rfl
      replace hO := hid hO
      replace hR := hid hR
      replace hb := hid hb
      clear hR1 hb1 hO1
      go_wp2_with fail
      refine (NeedleTextS 2 n _).mono ?_
      rintro e w2 ⟨rfl, hs⟩
      replace hR := hR.out.below hs
      replace hO := hO.out.below hs
      replace hb := hb.out.trans (hs.mono hb.out.size)
      clear hs o0 o1 of1 p0 p1
      by_cases hm : ntF 2 n = c :: r
      · have hyes := hid (rn_some (hnt.out.1 hm))
        have hsv : (⟨(ntF 2 n).toArray⟩ : ByteArray) = s := by rw [hm]; exact hsc.out.symm
        rw [hsv]
        replace hm := hid hm
        replace hsv := hid hsv
        have o0 := hO.cell 0 rfl
        have o1 := hO.cell 1 rfl
        have f0 := hR.frozen 0
        have f1 := hR.frozen 1
        have q0 := hR.cell 0 rfl
        have q1 := hR.cell 1 rfl
        have gR := (hR.set 0 (.int .i64 2)).set 1 (.int .i64 n)
        have g0 := gR.cell 0 rfl
        have g1 := gR.cell 1 rfl
        have hend := hid ((hb.setCell (p := ⟨w.heap.size, 0, none⟩) (Nat.le_refl _) (.int .i64 2)).setCell (p := ⟨w.heap.size, 1, none⟩) (Nat.le_refl _) (.int .i64 n))
        replace hR := hid hR
        replace hO := hid hO
        replace hb := hid hb
        replace gR := hid gR
        clear hnt hm hsv hsc
        go_wp2_with fail
        refine bodyPost_ret (v := .tuple #[.agg #[.int .i64 2, .int .i64 n], .bool true]) (by simp [g0, g1, results, Tryd.results33, go_sem]) rfl ⟨by rw [hyes.out.1, hyes.out.2.1, hyes.out.2.2], hend.out⟩
      · have hno := hid (rn_none (show rnO (c :: r) = none by
          cases hh : rnO (c :: r) with
          | none => rfl
          | some x =>
            exfalso
            apply hm
            apply hnt.out.2
            rcases Classical.em ((c.toNat = 102 ∨ c.toNat = 98) ∧ rdB r = true ∧ needleF (bedOf c) (rdN r) = true) with k | k
            · have := rn_yes k.1 k.2.1 k.2.2
              rw [hbd.out, hrn.out] at this; exact this
            · have : rnO (c :: r) = none := if_neg k
              rw [this] at hh; cases hh))
        have hne : ¬ (⟨(ntF 2 n).toArray⟩ : ByteArray) = s := fun h => hm (by
          rw [hsc.out] at h
          have h2 := congrArg (fun x : ByteArray => x.data.toList) h
          simpa using h2)
        have hbe := str_ne hne
        replace hne := hid hne
        generalize (⟨(ntF 2 n).toArray⟩ : ByteArray) = S at *
        clear hnt hm hsc hO hri
        have f0 := hR.frozen 0
        have f1 := hR.frozen 1
        have q0 := hR.cell 0 rfl
        have q1 := hR.cell 1 rfl
        have gR := (hR.set 0 (.int .i64 0)).set 1 (.int .i64 0)
        have g0 := gR.cell 0 rfl
        have g1 := gR.cell 1 rfl
        have hend := hid ((hb.setCell (p := ⟨w.heap.size, 0, none⟩) (Nat.le_refl _) (.int .i64 0)).setCell (p := ⟨w.heap.size, 1, none⟩) (Nat.le_refl _) (.int .i64 0))
        replace hR := hid hR
        replace hb := hid hb
        replace gR := hid gR
        go_wp2_with fail
        refine bodyPost_ret (v := .tuple #[.agg #[.int .i64 0, .int .i64 0], .bool false]) (by simp [g0, g1, results, Tryd.results33, go_sem]) rfl ⟨by rw [hno.out.1, hno.out.2.1, hno.out.2.2], hend.out⟩
  · have hbd := hid (show bedOf c = 1 by unfold bedOf; rw [if_neg hc2])
    have hx : ¬ byteAt s 0 = 98 := by rw [hbc]; omega
    clear hbc hsl hc2 h1
    have hCt := hid (fun (w' : World) => NumS t w' (by omega))
    rw [htl] at hCt
    have hb0 : Below w.heap.size w ((w.alloc (.cells #[.int .i64 0, .int .i64 0] 27)).alloc (.cells #[.int .i64 1, .int .i64 0] 27)) := ((Below.refl _ _).alloc (Nat.le_refl _) _).alloc (by simp) _
    have hR0 := (Bx.new w #[.int .i64 0, .int .i64 0] 27).alloc (.cells #[.int .i64 1, .int .i64 0] 27)
    have hO0 := Bx.new (w.alloc (.cells #[.int .i64 0, .int .i64 0] 27)) #[.int .i64 1, .int .i64 0] 27
    simp only [World.size_alloc] at hO0
    replace hb0 := hid hb0
    replace hR0 := hid hR0
    replace hO0 := hid hO0
    go_enter Tryd.func33, Tryd.ntmps33
    go_wp2_with fail
    refine (hCt.out _).mono ?_
    rintro e w1 ⟨rfl, hs⟩
    have hb1 := hb0.out.trans (hs.mono hb0.out.size)
    have hR1 := hR0.out.below hs
    have hO1 := hO0.out.below hs
    clear hs hb0 hR0 hO0 hCt
    have o0 := hO1.cell 0 rfl
    have o1 := hO1.cell 1 rfl
    have of1 := hO1.frozen 1
    cases e1 : rdB r with
    | false =>
      have hno := hid (rn_none (rn_no2 (c := c) e1))
      clear e1
      generalize rdN r = n at *
      have hR := hR1.other (a := ⟨w.heap.size + 1, 1, none⟩) (by simp) (.int .i64 n)
      have hb := hb1.setCell (p := ⟨w.heap.size + 1, 1, none⟩) (by simp) (.int .i64 n)
      clear hR1 hb1 hO1 o0 hsc
      have f0 := hR.frozen 0
      have f1 := hR.frozen 1
      have q0 := hR.cell 0 rfl
      have q1 := hR.cell 1 rfl
      have gR := (hR.set 0 (.int .i64 0)).set 1 (.int .i64 0)
      have g0 := gR.cell 0 rfl
      have g1 := gR.cell 1 rfl
      have hend := hid ((hb.setCell (p := ⟨w.heap.size, 0, none⟩) (Nat.le_refl _) (.int .i64 0)).setCell (p := ⟨w.heap.size, 1, none⟩) (Nat.le_refl _) (.int .i64 0))
      replace hR := hid hR
      replace hb := hid hb
      replace gR := hid gR
      go_wp2_with fail
      refine bodyPost_ret (v := .tuple #[.agg #[.int .i64 0, .int .i64 0], .bool false]) (by simp [g0, g1, results, Tryd.results33, go_sem]) rfl ⟨by rw [hno.out.1, hno.out.2.1, hno.out.2.2], hend.out⟩
    | true =>
      have hnt := hid (nt_iff (c := c) e1)
      rw [hbd.out] at hnt
      have hri := hid (rd_itoa e1)
      clear e1
      generalize hrn : rdN r = n at *
      replace hrn := hid hrn
      have hO := hO1.set 1 (.int .i64 n)
      have hR := hR1.other (a := ⟨w.heap.size + 1, 1, none⟩) (by simp) (.int .i64 n)
      have hb := hb1.setCell (p := ⟨w.heap.size + 1, 1, none⟩) (by simp) (.int .i64 n)
      have p0 := hO.cell 0 rfl
      have p1 := hO.cell 1 rfl
      replace hO := hid hO
      replace hR := hid hR
      replace hb := hid hb
      clear hR1 hb1 hO1
      go_wp2_with fail
      refine (NeedleTextS 1 n _).mono ?_
      rintro e w2 ⟨rfl, hs⟩
      replace hR := hR.out.below hs
      replace hO := hO.out.below hs
      replace hb := hb.out.trans (hs.mono hb.out.size)
      clear hs o0 o1 of1 p0 p1
      by_cases hm : ntF 1 n = c :: r
      · have hyes := hid (rn_some (hnt.out.1 hm))
        have hsv : (⟨(ntF 1 n).toArray⟩ : ByteArray) = s := by rw [hm]; exact hsc.out.symm
        rw [hsv]
        replace hm := hid hm
        replace hsv := hid hsv
        have o0 := hO.cell 0 rfl
        have o1 := hO.cell 1 rfl
        have f0 := hR.frozen 0
        have f1 := hR.frozen 1
        have q0 := hR.cell 0 rfl
        have q1 := hR.cell 1 rfl
        have gR := (hR.set 0 (.int .i64 1)).set 1 (.int .i64 n)
        have g0 := gR.cell 0 rfl
        have g1 := gR.cell 1 rfl
        have hend := hid ((hb.setCell (p := ⟨w.heap.size, 0, none⟩) (Nat.le_refl _) (.int .i64 1)).setCell (p := ⟨w.heap.size, 1, none⟩) (Nat.le_refl _) (.int .i64 n))
        replace hR := hid hR
        replace hO := hid hO
        replace hb := hid hb
        replace gR := hid gR
        clear hnt hm hsv hsc
        go_wp2_with fail
        refine bodyPost_ret (v := .tuple #[.agg #[.int .i64 1, .int .i64 n], .bool true]) (by simp [g0, g1, results, Tryd.results33, go_sem]) rfl ⟨by rw [hyes.out.1, hyes.out.2.1, hyes.out.2.2], hend.out⟩
      · have hno := hid (rn_none (show rnO (c :: r) = none by
          cases hh : rnO (c :: r) with
          | none => rfl
          | some x =>
            exfalso
            apply hm
            apply hnt.out.2
            rcases Classical.em ((c.toNat = 102 ∨ c.toNat = 98) ∧ rdB r = true ∧ needleF (bedOf c) (rdN r) = true) with k | k
            · have := rn_yes k.1 k.2.1 k.2.2
              rw [hbd.out, hrn.out] at this; exact this
            · have : rnO (c :: r) = none := if_neg k
              rw [this] at hh; cases hh))
        have hne : ¬ (⟨(ntF 1 n).toArray⟩ : ByteArray) = s := fun h => hm (by
          rw [hsc.out] at h
          have h2 := congrArg (fun x : ByteArray => x.data.toList) h
          simpa using h2)
        have hbe := str_ne hne
        replace hne := hid hne
        generalize (⟨(ntF 1 n).toArray⟩ : ByteArray) = S at *
        clear hnt hm hsc hO hri
        have f0 := hR.frozen 0
        have f1 := hR.frozen 1
        have q0 := hR.cell 0 rfl
        have q1 := hR.cell 1 rfl
        have gR := (hR.set 0 (.int .i64 0)).set 1 (.int .i64 0)
        have g0 := gR.cell 0 rfl
        have g1 := gR.cell 1 rfl
        have hend := hid ((hb.setCell (p := ⟨w.heap.size, 0, none⟩) (Nat.le_refl _) (.int .i64 0)).setCell (p := ⟨w.heap.size, 1, none⟩) (Nat.le_refl _) (.int .i64 0))
        replace hR := hid hR
        replace hb := hid hb
        replace gR := hid gR
        go_wp2_with fail
        refine bodyPost_ret (v := .tuple #[.agg #[.int .i64 0, .int .i64 0], .bool false]) (by simp [g0, g1, results, Tryd.results33, go_sem]) rfl ⟨by rw [hno.out.1, hno.out.2.1, hno.out.2.2], hend.out⟩


end Go.Proofs.YtkgdbobhppmaiaaDoor
