/- The law of SplitWords: its walk. -/
import Derived.Test.YtkgdbobhppmaiaaDoorSpm
namespace Go.Proofs.YtkgdbobhppmaiaaDoor
open Go.RowKit

theorem words_len (l : List UInt8) : (wordsOf l).length ≤ l.length + 1 :=
  Nat.le_trans (List.length_filter_le _ _) (parts_len l)

set_option maxRecDepth 100000 in
set_option maxHeartbeats 4000000 in
theorem walk_FnExactSplitWords (s : ByteArray) (W : World) (_hs : s.size ≤ maxLen) (hM : Mx W) :
    Calls Tryd.prog 5 #[.string s] W fun e w' => e = .returned (.bool true) ∧ Below W.heap.size W w' := by
  by_cases hs : s.size ≤ 1048576
  · have hg : ¬ (1048576 : Int) < (s.size : Int) := by omega
    have hwl := words_len s.data.toList
    have hsz : s.data.toList.length = s.size := rfl
    generalize hwo : wordsOf s.data.toList = L at *
    have hL : L.length ≤ 1048577 := by omega
    replace hwo := hid hwo
    clear hwl hsz
    go_enter Tryd.func5, Tryd.ntmps5
    go_wp2_with fail
    refine (SplitWordsS s W hs).mono ?_
    rintro e w1 ⟨v, rfl, hv, hb1⟩
    rw [hwo.out] at hv
    obtain ⟨m, hm⟩ := hM.below hb1
    replace hm := hid hm
    replace hb1 := hid hb1
    replace hv := hid hv
    go_wp2_with fail
    refine (SplitWordsI s m w1 hm.out hs).mono ?_
    rintro e w2 ⟨u, rfl, hu, hb2⟩
    rw [hwo.out] at hu
    have hv2 := hid (hv.out.reads.below hb2)
    have hu0 := hid hu
    clear hu
    replace hb2 := hid hb2
    go_wp2_with fail
    refine (eqSS u v L L w2 hu0.out.reads hv2.out hL).mono ?_
    rintro e w3 ⟨rfl, hb3⟩
    rw [show decide (L = L) = true from decide_eq_true rfl]
    have hu3 := hid (hu0.out.below hb3)
    have hv3 := hid (hv2.out.below hb3)
    replace hb3 := hid hb3
    go_wp2_with fail
    refine (markSS u L 1 w3 hu3.out (Nat.le_trans hb2.out.size hb3.out.size) hL (by omega) (by omega)).mono ?_
    rintro e w4 ⟨rfl, hu4, hb4⟩
    have hb14 := hid ((hb2.out.trans (hb3.out.mono hb2.out.size)).trans hb4)
    have hu4r := hid hu4.reads
    replace hM := hid hM
    clear hu4 hb4 hb2 hb3 hu3 hv3 hu0 hv2
    go_wp2_with fail
    refine (heldSS u L.length 1 w4 hu4r.out hL (by omega) (by omega)).mono ?_
    rintro e w5 ⟨rfl, hb5⟩
    have hb15 := hid (hb14.out.trans (hb5.mono hb14.out.size))
    have hu5 := hid (hu4r.out.below hb5)
    clear hb5 hu4r hb14
    have hn0 : ¬ (1 + (L.length : Int)) < 0 := by omega
    go_wp2_with fail
    have hb05 := hid (hb1.out.trans (hb15.out.mono hb1.out.size))
    obtain ⟨m5, hm5⟩ := hM.out.below hb05.out
    replace hm5 := hid hm5
    refine (SplitWordsI s m5 w5 hm5.out hs).mono ?_
    rintro e w6 ⟨x, rfl, hx, hb6⟩
    rw [hwo.out] at hx
    have hx6 := hid hx.reads
    have hb16 := hid (hb15.out.trans (hb6.mono hb15.out.size))
    have hu6 := hid (hu5.out.below hb6)
    clear hx hb6 hu5 hb15 hb05
    have hv6 := hid (hv.out.below hb16.out)
    go_wp2_with fail
    refine (eqSS x v L L w6 hx6.out hv6.out.reads hL).mono ?_
    rintro e w7 ⟨rfl, hb7⟩
    rw [show decide (L = L) = true from decide_eq_true rfl]
    have hu7 := hid (hu6.out.below hb7)
    have hb17 := hid (hb16.out.trans (hb7.mono hb16.out.size))
    clear hb7 hb16 hu6
    go_wp2_with fail
    refine (heldSS u L.length 1 w7 hu7.out hL (by omega) (by omega)).mono ?_
    rintro e w8 ⟨rfl, hb8⟩
    have hb18 := hid (hb1.out.trans ((hb17.out.trans (hb8.mono hb17.out.size)).mono hb1.out.size))
    clear hb8 hb17 hu7
    go_wp2_with fail
    go_ret
    exact ⟨rfl, hb18.out⟩
  · have hg : (1048576 : Int) < (s.size : Int) := by omega
    clear hs
    go_enter Tryd.func5, Tryd.ntmps5
    go_wp2_with fail
    go_ret
    exact ⟨rfl, Below.refl _ _⟩


end Go.Proofs.YtkgdbobhppmaiaaDoor
