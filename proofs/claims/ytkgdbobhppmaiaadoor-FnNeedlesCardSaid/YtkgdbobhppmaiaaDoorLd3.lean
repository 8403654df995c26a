/- Reading numbers: contracts and the law's walk. -/
import Derived.Test.YtkgdbobhppmaiaaDoorLd1
import Derived.Test.YtkgdbobhppmaiaaDoorNam
namespace Go.Proofs.YtkgdbobhppmaiaaDoor
open Go.RowKit
open Go.Lib (itoa)

theorem str_ne {a b : ByteArray} (h : ¬ a = b) : (a.toList == b.toList) = false := by
  rw [beq_eq_false_iff_ne, ByteArray.toList_eq, ByteArray.toList_eq]
  intro e
  exact h (ByteArray.ext (Array.ext' e))
theorem bw_below (w : World) (e : TypeId) (w' : World) (h : w' = w ∨ ∃ t, w' = Lib.bytesWorld w e t) : Below w.heap.size w w' := by
  rcases h with rfl | ⟨t, rfl⟩
  · exact Below.refl _ _
  · exact Lib.bytesWorld_below _ _ _

set_option maxRecDepth 100000 in
set_option maxHeartbeats 2000000 in
theorem ReadDecI (s : ByteArray) (w : World) (hs : s.size ≤ 1048576) (hT : Tb w) (hE : Er w) :
    Calls Tryd.prog 28 #[.string s] w fun e w' => e = .returned (.tuple #[.int .i64 (rdN s.data.toList), .bool (rdB s.data.toList)]) ∧ Below w.heap.size w w' := by
  cases hp : Lib.parseIntB 64 s.data.toList with
  | range =>
    have hbad := hid (rd_bad (l := s.data.toList) fun v hv => by rw [hp] at hv; cases hv)
    obtain ⟨tp, p, hv⟩ := hE.rng
    have hC := hid (Tryd.strconv_ParseInt_10_at64_range_var s (by omega) hp tp p w hv)
    clear hp hv hE hT
    go_enter Tryd.func28, Tryd.ntmps28
    go_wp2_with fail
    refine hC.out.mono ?_
    rintro e w1 ⟨N, rfl, h1, h2, hb⟩
    clear h1 h2 hC
    go_wp2_with fail
    go_ret2
    exact ⟨by rw [hbad.out.eq.1, hbad.out.eq.2]; rfl, hb⟩
  | ok v =>
    have hC := hid (Tryd.strconv_ParseInt_10_at64_ok s (by omega) v hp w)
    by_cases h1 : 999999999 < v
    · have hbad := hid (rd_other hp (by omega))
      clear hp
      go_enter Tryd.func28, Tryd.ntmps28
      go_wp2_with fail
      refine hC.out.mono ?_
      rintro e w1 ⟨rfl, hw⟩
      have hb := hid (bw_below _ _ _ hw)
      clear hw hC
      go_wp2_with fail
      go_ret2
      exact ⟨by rw [hbad.out.eq.1, hbad.out.eq.2]; rfl, hb.out⟩
    by_cases h2 : v < -999999999
    · have hbad := hid (rd_other hp (by omega))
      clear hp
      go_enter Tryd.func28, Tryd.ntmps28
      go_wp2_with fail
      refine hC.out.mono ?_
      rintro e w1 ⟨rfl, hw⟩
      have hb := hid (bw_below _ _ _ hw)
      clear hw hC
      go_wp2_with fail
      go_ret2
      exact ⟨by rw [hbad.out.eq.1, hbad.out.eq.2]; rfl, hb.out⟩
    by_cases h3 : itoa v = s.data.toList
    · have hyes := hid (show RdOk s.data.toList v true from .inl ⟨rfl, h3, by omega, by omega⟩)
      have hsv : (⟨(itoa v).toArray⟩ : ByteArray) = s := by rw [h3]
      replace hsv := hid hsv
      clear hp h3
      go_enter Tryd.func28, Tryd.ntmps28
      go_wp2_with fail
      refine hC.out.mono ?_
      rintro e w1 ⟨rfl, hw⟩
      have hb := hid (bw_below _ _ _ hw)
      clear hw hC
      go_wp2_with fail
      refine (DecI v w1 (by omega) (by omega) (hT.below hb.out)).mono ?_
      rintro e w2 ⟨rfl, hb2⟩
      have hb3 := hid (hb.out.trans (hb2.mono hb.out.size))
      clear hb2 hb
      rw [hsv.out]
      go_wp2_with fail
      go_ret2
      exact ⟨by rw [hyes.out.eq.1, hyes.out.eq.2]; rfl, hb3.out⟩
    · have hbad := hid (rd_other hp fun h => h3 h.2.2)
      have hne : ¬ (⟨(itoa v).toArray⟩ : ByteArray) = s := fun h => h3 (by rw [← h])
      replace hne := hid hne
      clear hp h3
      go_enter Tryd.func28, Tryd.ntmps28
      go_wp2_with fail
      refine hC.out.mono ?_
      rintro e w1 ⟨rfl, hw⟩
      have hb := hid (bw_below _ _ _ hw)
      clear hw hC
      go_wp2_with fail
      refine (DecI v w1 (by omega) (by omega) (hT.below hb.out)).mono ?_
      rintro e w2 ⟨rfl, hb2⟩
      have hb3 := hid (hb.out.trans (hb2.mono hb.out.size))
      clear hb2 hb
      have hne2 := hne.out
      have hbe := str_ne hne2
      have hbe := str_ne hne2
      have hbe := str_ne hne2
      have hbe := str_ne hne2
      generalize (⟨(itoa v).toArray⟩ : ByteArray) = S at *
      go_wp2_with fail
      go_ret2
      exact ⟨by rw [hbad.out.eq.1, hbad.out.eq.2]; rfl, hb3.out⟩
  | _ =>
    have hbad := hid (rd_bad (l := s.data.toList) fun v hv => by rw [hp] at hv; cases hv)
    obtain ⟨tp, p, hv⟩ := hE.syn
    have hC := hid (Tryd.strconv_ParseInt_10_at64_none_var s (by omega) (fun v e => by rw [hp] at e; cases e) (fun e => by rw [hp] at e; cases e) tp p w hv)
    clear hp hv hE hT
    go_enter Tryd.func28, Tryd.ntmps28
    go_wp2_with fail
    refine hC.out.mono ?_
    rintro e w1 ⟨N, rfl, h1, h2, hb⟩
    clear h1 h2 hC
    go_wp2_with fail
    go_ret2
    exact ⟨by rw [hbad.out.eq.1, hbad.out.eq.2]; rfl, hb⟩

theorem vald_take {l : List UInt8} {k : Nat} (h : k < l.length) : vald 0 (l.take (k + 1)) = 10 * vald 0 (l.take k) + (l[k].toNat - 48) := by
  rw [List.take_add_one, List.getElem?_eq_getElem h, vald_app]; rfl
set_option maxRecDepth 100000 in
set_option maxHeartbeats 16000000 in
theorem NumS (s : ByteArray) (w : World) (hs : s.size ≤ 1048576) :
    Calls Tryd.prog 65 #[.string s] w fun e w' => e = .returned (.tuple #[.int .i64 (rdN s.data.toList), .bool (rdB s.data.toList)]) ∧ Below w.heap.size w w' := by
  by_cases h0 : s.size = 0
  · have hse : s.toList.isEmpty = true := by rw [empty_iff]; exact h0
    have hl0 : s.data.toList = [] := List.eq_nil_of_length_eq_zero h0
    have hbad := hid (rd_len (l := s.data.toList) (by rw [hl0]; left; simp [magL]))
    have hz : (s.size : Int) < 1 := by omega
    clear hl0 h0
    go_enter Tryd.func65, Tryd.ntmps65
    go_wp2_with fail
    go_ret2
    exact ⟨by rw [hbad.out.eq.1, hbad.out.eq.2]; rfl, Below.refl _ _⟩
  · have h0' : 0 < s.size := by omega
    have hse : s.toList.isEmpty = false := by
      cases e : s.toList.isEmpty with
      | false => rfl
      | true => rw [empty_iff] at e; omega
    have hby0 : ((s[0].toNat : Nat) : Int) = byteAt s 0 := byteAt_eq s h0'
    obtain ⟨c0, r0, hcr⟩ : ∃ c0 r0, s.data.toList = c0 :: r0 := by
      cases h : s.data.toList with
      | nil => exact absurd (show s.data.toList.length = 0 by rw [h]; rfl) h0
      | cons c r => exact ⟨c, r, rfl⟩
    have hbc : byteAt s 0 = (c0.toNat : Int) := by unfold byteAt; rw [hcr]; rfl
    have hsl : s.size = r0.length + 1 := by show s.data.toList.length = _; rw [hcr]; rfl
    by_cases h45 : c0.toNat = 45
    · have hb45 : (byteAt s 0 == 45) = true := by rw [hbc, h45]; rfl
      obtain ⟨t, hex⟩ : ∃ t, s.extract 1 s.size = t := ⟨_, rfl⟩
      have htl : t.data.toList = r0 := by
        rw [← hex, Lib.extract_to_end, hcr]; rfl
      have hTm := hid (show t.data.toList = magL s.data.toList by rw [htl, hcr]; unfold magL; simp only; rw [if_pos h45])
      have hlts : t.data.toList.length < s.data.toList.length := by rw [htl, hcr]; simp
      have htz : t.size ≤ 1048576 := by show t.data.toList.length ≤ _; rw [htl]; omega
      clear hcr hbc hsl h45 htl h0
      go_enter Tryd.func65, Tryd.ntmps65
      by_cases hl : t.size < 1 ∨ 9 < t.size
      · have hbad := hid (rd_len (l := s.data.toList) (by rw [← hTm.out]; exact hl))
        replace hTm := hid hTm.out
        rcases hl with hl | hl
        · have hl' : (t.size : Int) < 1 := by omega
          clear hl
          go_wp2_with fail
          go_ret2
          exact ⟨by rw [hbad.out.eq.1, hbad.out.eq.2]; rfl, Below.refl _ _⟩
        · have hl' : (9 : Int) < (t.size : Int) := by omega
          have hl2 : ¬ (t.size : Int) < 1 := by omega
          clear hl
          go_wp2_with fail
          go_ret2
          exact ⟨by rw [hbad.out.eq.1, hbad.out.eq.2]; rfl, Below.refl _ _⟩
      have hl1 : ¬ (t.size : Int) < 1 := by omega
      have hl9 : ¬ (9 : Int) < (t.size : Int) := by omega
      have hl0 : t.size ≤ 9 := by omega
      clear hl
      go_wp2_with fail
      go_loopw [5, 6] (fun c i wr => ∃ (k x : Nat), k ≤ t.size ∧ c = .int .i64 (x : Int) ∧ i = .int .i64 (k : Int) ∧ Hid (x = vald 0 (t.data.toList.take k)) ∧ Hid (∀ c ∈ t.data.toList.take k, isDg c = true) ∧ x ≤ 999999999 ∧ w = wr) (fun _ i _ => t.size - (intOf i).toNat)
      case atStart => exact ⟨0, 0, by omega, rfl, rfl, hid rfl, hid (by simp), by omega, rfl⟩
      case round =>
        obtain ⟨k, x, hk, rfl, rfl, hx, hdg, hx9, rfl⟩ := hrel
        by_cases hlt : k < t.size
        · have hby : ((t[k].toNat : Nat) : Int) = byteAt t k := byteAt_eq t hlt
          have hbb := byte_bd t k
          have hkl : k < t.data.toList.length := hlt
          have hbk : byteAt t k = ((t.data.toList[k]).toNat : Int) := by unfold byteAt; rw [List.getElem?_eq_getElem hkl]; rfl
          cases e1 : digitB (byteAt t k) with
          | false =>
            have hbad := hid (rd_dig (l := s.data.toList) (c := t.data.toList[k]) (by rw [← hTm.out]; exact List.getElem_mem hkl) (by
              cases e : isDg t.data.toList[k] with
              | false => rfl
              | true =>
                have h1 := isDg_iff.1 e
                have : digitB (byteAt t k) = true := by unfold digitB inB; rw [hbk, Bool.and_eq_true]; exact ⟨decide_eq_true (by omega), decide_eq_true (by omega)⟩
                rw [e1] at this; cases this))
            clear hbk hkl hx hdg hx9
            go_wp2_with fail
            refine (digit_spec _ _).mono ?_
            rintro e w1 ⟨rfl, rfl⟩
            rw [e1]
            clear e1
            go_wp2_with fail
            go_ret2
            exact ⟨by rw [hbad.out.eq.1, hbad.out.eq.2]; rfl, Below.refl _ _⟩
          | true =>
            have hd := inB_yes (show inB (byteAt t k) 48 57 = true from e1)
            have hc : isDg t.data.toList[k] = true := isDg_iff.2 (by omega)
            have hx2 := hid (show 10 * x + (t.data.toList[k].toNat - 48) = vald 0 (t.data.toList.take (k + 1)) by rw [vald_take hkl, ← hx.out])
            have hdg2 := hid (show ∀ c ∈ t.data.toList.take (k + 1), isDg c = true by
              intro c hc2
              rw [List.take_add_one, List.getElem?_eq_getElem hkl, List.mem_append] at hc2
              rcases hc2 with h | h
              · exact hdg.out c h
              · have : c = t.data.toList[k] := by simpa using h
                rw [this]; exact hc)
            have hx92 : 10 * x + (t.data.toList[k].toNat - 48) ≤ 999999999 := by
              have h1 := vald_lt 0 _ hdg2.out
              rw [← hx2.out] at h1
              have h2 : 10 ^ (t.data.toList.take (k + 1)).length ≤ 10 ^ 9 := Nat.pow_le_pow_right (by omega) (by rw [List.length_take]; omega)
              have h3 : (10 : Nat) ^ 9 = 1000000000 := rfl
              omega
            have hu8 := Go.IntWalk.u8_in (byteAt t k - 48) (by omega)
            obtain ⟨y, hy⟩ : ∃ y : Nat, y = t.data.toList[k].toNat - 48 := ⟨_, rfl⟩
            have hyb : byteAt t k - 48 = (y : Int) := by omega
            rw [← hy] at hx2 hx92
            have hy9 : y ≤ 9 := by omega
            replace hbk := hid hbk
            replace hy := hid hy
            clear hkl hx hdg hc hbk hy
            go_wp2_with fail
            refine (digit_spec _ _).mono ?_
            rintro e w1 ⟨rfl, rfl⟩
            rw [e1]
            clear e1
            go_wp2_with fail
            go_roundw
            case rel => exact ⟨k + 1, 10 * x + y, by omega, by go_num, by go_num, hid hx2.out, hid hdg2.out, hx92, by first | rfl | trivial⟩
            case measure => simp [intOf] <;> omega
        · obtain rfl : k = t.size := by omega
          have htk : t.data.toList.take t.size = t.data.toList := List.take_of_length_le (Nat.le_refl _)
          have hx3 := hx.out
          have hdg3 := hdg.out
          rw [htk, hTm.out] at hx3 hdg3
          have hm9 : (magL s.data.toList).length ≤ 9 := by rw [← hTm.out]; exact hl0
          have hsg : sgnV s.data.toList (vald 0 (magL s.data.toList)) = -(x : Int) := by rw [← hx3]; unfold sgnV; rw [← hTm.out]; rw [if_pos hlts]
          by_cases h3 : itoa (-(x : Int)) = s.data.toList
          case' pos =>
            have hyes := hid (show RdOk s.data.toList (-(x : Int)) true by have := rd_yes hm9 hdg3 (by rw [hsg]; exact h3); rwa [hsg] at this)
            have hsv : (⟨(itoa (-(x : Int))).toArray⟩ : ByteArray) = s := by rw [h3]
            replace hsv := hid hsv
          case' neg =>
            have hbad := hid (rd_end (l := s.data.toList) (by rw [hsg]; exact h3))
            have hne : ¬ (⟨(itoa (-(x : Int))).toArray⟩ : ByteArray) = s := fun h => h3 (by rw [← h])
            replace hne := hid hne
          all_goals
            clear h3 hsg hm9 hdg3 hx3 htk hx hdg
            have hszz : (t.size : Int) < (s.size : Int) := by have : t.data.toList.length = t.size := rfl; have : s.data.toList.length = s.size := rfl; omega
            go_wp2_with fail
            refine (DecS (-(x : Int)) w (by omega) (by omega)).mono ?_
            rintro e w2 ⟨rfl, hb2⟩
            replace hb2 := hid hb2
          · have hne2 := hne.out
            have hbe := str_ne hne2
            generalize (⟨(itoa (-(x : Int))).toArray⟩ : ByteArray) = S at *
            go_wp2_with fail
            go_ret2
            exact ⟨by rw [hbad.out.eq.1, hbad.out.eq.2]; rfl, hb2.out⟩
          · rw [hsv.out]
            go_wp2_with fail
            go_ret2
            exact ⟨by rw [hyes.out.eq.1, hyes.out.eq.2]; rfl, hb2.out⟩

    · have hb45 : (byteAt s 0 == 45) = false := by rw [hbc, beq_eq_false_iff_ne]; omega
      have hTm := hid (show s.data.toList = magL s.data.toList by rw [hcr]; unfold magL; simp only; rw [if_neg h45])
      clear hcr hbc hsl h45 h0
      go_enter Tryd.func65, Tryd.ntmps65
      by_cases hl : s.size < 1 ∨ 9 < s.size
      · have hbad := hid (rd_len (l := s.data.toList) (by rw [← hTm.out]; exact hl))
        replace hTm := hid hTm.out
        rcases hl with hl | hl
        · have hl' : (s.size : Int) < 1 := by omega
          clear hl
          go_wp2_with fail
          go_ret2
          exact ⟨by rw [hbad.out.eq.1, hbad.out.eq.2]; rfl, Below.refl _ _⟩
        · have hl' : (9 : Int) < (s.size : Int) := by omega
          have hl2 : ¬ (s.size : Int) < 1 := by omega
          clear hl
          go_wp2_with fail
          go_ret2
          exact ⟨by rw [hbad.out.eq.1, hbad.out.eq.2]; rfl, Below.refl _ _⟩
      have hl1 : ¬ (s.size : Int) < 1 := by omega
      have hl9 : ¬ (9 : Int) < (s.size : Int) := by omega
      have hl0 : s.size ≤ 9 := by omega
      clear hl
      go_wp2_with fail
      go_loopw [5, 6] (fun c i wr => ∃ (k x : Nat), k ≤ s.size ∧ c = .int .i64 (x : Int) ∧ i = .int .i64 (k : Int) ∧ Hid (x = vald 0 (s.data.toList.take k)) ∧ Hid (∀ c ∈ s.data.toList.take k, isDg c = true) ∧ x ≤ 999999999 ∧ w = wr) (fun _ i _ => s.size - (intOf i).toNat)
      case atStart => exact ⟨0, 0, by omega, rfl, rfl, hid rfl, hid (by simp), by omega, rfl⟩
      case round =>
        obtain ⟨k, x, hk, rfl, rfl, hx, hdg, hx9, rfl⟩ := hrel
        by_cases hlt : k < s.size
        · have hby : ((s[k].toNat : Nat) : Int) = byteAt s k := byteAt_eq s hlt
          have hbb := byte_bd s k
          have hkl : k < s.data.toList.length := hlt
          have hbk : byteAt s k = ((s.data.toList[k]).toNat : Int) := by unfold byteAt; rw [List.getElem?_eq_getElem hkl]; rfl
          cases e1 : digitB (byteAt s k) with
          | false =>
            have hbad := hid (rd_dig (l := s.data.toList) (c := s.data.toList[k]) (by rw [← hTm.out]; exact List.getElem_mem hkl) (by
              cases e : isDg s.data.toList[k] with
              | false => rfl
              | true =>
                have h1 := isDg_iff.1 e
                have : digitB (byteAt s k) = true := by unfold digitB inB; rw [hbk, Bool.and_eq_true]; exact ⟨decide_eq_true (by omega), decide_eq_true (by omega)⟩
                rw [e1] at this; cases this))
            clear hbk hkl hx hdg hx9
            go_wp2_with fail
            refine (digit_spec _ _).mono ?_
            rintro e w1 ⟨rfl, rfl⟩
            rw [e1]
            clear e1
            go_wp2_with fail
            go_ret2
            exact ⟨by rw [hbad.out.eq.1, hbad.out.eq.2]; rfl, Below.refl _ _⟩
          | true =>
            have hd := inB_yes (show inB (byteAt s k) 48 57 = true from e1)
            have hc : isDg s.data.toList[k] = true := isDg_iff.2 (by omega)
            have hx2 := hid (show 10 * x + (s.data.toList[k].toNat - 48) = vald 0 (s.data.toList.take (k + 1)) by rw [vald_take hkl, ← hx.out])
            have hdg2 := hid (show ∀ c ∈ s.data.toList.take (k + 1), isDg c = true by
              intro c hc2
              rw [List.take_add_one, List.getElem?_eq_getElem hkl, List.mem_append] at hc2
              rcases hc2 with h | h
              · exact hdg.out c h
              · have : c = s.data.toList[k] := by simpa using h
                rw [this]; exact hc)
            have hx92 : 10 * x + (s.data.toList[k].toNat - 48) ≤ 999999999 := by
              have h1 := vald_lt 0 _ hdg2.out
              rw [← hx2.out] at h1
              have h2 : 10 ^ (s.data.toList.take (k + 1)).length ≤ 10 ^ 9 := Nat.pow_le_pow_right (by omega) (by rw [List.length_take]; omega)
              have h3 : (10 : Nat) ^ 9 = 1000000000 := rfl
              omega
            have hu8 := Go.IntWalk.u8_in (byteAt s k - 48) (by omega)
            obtain ⟨y, hy⟩ : ∃ y : Nat, y = s.data.toList[k].toNat - 48 := ⟨_, rfl⟩
            have hyb : byteAt s k - 48 = (y : Int) := by omega
            rw [← hy] at hx2 hx92
            have hy9 : y ≤ 9 := by omega
            replace hbk := hid hbk
            replace hy := hid hy
            clear hkl hx hdg hc hbk hy
            go_wp2_with fail
            refine (digit_spec _ _).mono ?_
            rintro e w1 ⟨rfl, rfl⟩
            rw [e1]
            clear e1
            go_wp2_with fail
            go_roundw
            case rel => exact ⟨k + 1, 10 * x + y, by omega, by go_num, by go_num, hid hx2.out, hid hdg2.out, hx92, by first | rfl | trivial⟩
            case measure => simp [intOf] <;> omega
        · obtain rfl : k = s.size := by omega
          have htk : s.data.toList.take s.size = s.data.toList := List.take_of_length_le (Nat.le_refl _)
          have hx3 := hx.out
          have hdg3 := hdg.out
          rw [htk, hTm.out] at hx3 hdg3
          have hm9 : (magL s.data.toList).length ≤ 9 := by rw [← hTm.out]; exact hl0
          have hsg : sgnV s.data.toList (vald 0 (magL s.data.toList)) = (x : Int) := by rw [← hx3]; unfold sgnV; rw [← hTm.out]; rw [if_neg (Nat.lt_irrefl _)]
          by_cases h3 : itoa ((x : Int)) = s.data.toList
          case' pos =>
            have hyes := hid (show RdOk s.data.toList ((x : Int)) true by have := rd_yes hm9 hdg3 (by rw [hsg]; exact h3); rwa [hsg] at this)
            have hsv : (⟨(itoa ((x : Int))).toArray⟩ : ByteArray) = s := by rw [h3]
            replace hsv := hid hsv
          case' neg =>
            have hbad := hid (rd_end (l := s.data.toList) (by rw [hsg]; exact h3))
            have hne : ¬ (⟨(itoa ((x : Int))).toArray⟩ : ByteArray) = s := fun h => h3 (by rw [← h])
            replace hne := hid hne
          all_goals
            clear h3 hsg hm9 hdg3 hx3 htk hx hdg
            go_wp2_with fail
            refine (DecS ((x : Int)) w (by omega) (by omega)).mono ?_
            rintro e w2 ⟨rfl, hb2⟩
            replace hb2 := hid hb2
          · have hne2 := hne.out
            have hbe := str_ne hne2
            generalize (⟨(itoa ((x : Int))).toArray⟩ : ByteArray) = S at *
            go_wp2_with fail
            go_ret2
            exact ⟨by rw [hbad.out.eq.1, hbad.out.eq.2]; rfl, hb2.out⟩
          · rw [hsv.out]
            go_wp2_with fail
            go_ret2
            exact ⟨by rw [hyes.out.eq.1, hyes.out.eq.2]; rfl, hb2.out⟩


set_option maxRecDepth 100000 in
set_option maxHeartbeats 2000000 in
theorem ReadDecS (s : ByteArray) (w : World) (hs : s.size ≤ 1048576) :
    Calls Tryd.prog 27 #[.string s] w fun e w' => e = .returned (.tuple #[.int .i64 (rdN s.data.toList), .bool (rdB s.data.toList)]) ∧ Below w.heap.size w w' := by
  have hC := hid (NumS s w hs)
  generalize rdN s.data.toList = n at *
  generalize rdB s.data.toList = b at *
  go_enter Tryd.func27, Tryd.ntmps27
  go_wp2_with fail
  refine hC.out.mono ?_
  rintro e w1 ⟨rfl, hb⟩
  go_wp2_with fail
  go_ret2
  exact ⟨rfl, hb⟩

set_option maxRecDepth 100000 in
set_option maxHeartbeats 2000000 in
theorem walk_FnExactReadDecimal (s : ByteArray) (W : World) (_hs : s.size ≤ maxLen) (hT : Tb W) (hE : Er W) :
    Calls Tryd.prog 7 #[.string s] W fun e w' => e = .returned (.bool true) ∧ Below W.heap.size W w' := by
  by_cases hl : 1048576 < s.size
  · have hl' : (1048576 : Int) < (s.size : Int) := by omega
    go_enter Tryd.func7, Tryd.ntmps7
    go_wp2_with fail
    go_ret
    exact ⟨rfl, Below.refl _ _⟩
  · have hl' : ¬ (1048576 : Int) < (s.size : Int) := by omega
    have hC := hid (ReadDecS s W (by omega))
    have hC2 := hid (fun (w : World) (h : Below W.heap.size W w) => ReadDecI s w (by omega) (hT.below h) (hE.below h))
    generalize rdN s.data.toList = n at *
    generalize rdB s.data.toList = b at *
    go_enter Tryd.func7, Tryd.ntmps7
    go_wp2_with fail
    refine hC.out.mono ?_
    rintro e w1 ⟨rfl, hb⟩
    go_wp2_with fail
    refine (hC2.out _ hb).mono ?_
    rintro e w2 ⟨rfl, hb2⟩
    go_wp2_with fail
    go_ret
    exact ⟨rfl, hb.trans (hb2.mono hb.size)⟩

end Go.Proofs.YtkgdbobhppmaiaaDoor
