/- Words of a text: contracts. -/
import Derived.Test.YtkgdbobhppmaiaaDoorSpp
import Derived.Test.YtkgdbobhppmaiaaDoorLd3
namespace Go.Proofs.YtkgdbobhppmaiaaDoor
open Go.RowKit

theorem sizeW : (sizeOf 9).run Tryd.prog = fun w => .ok 1 w := by funext w; kernel_rfl
theorem sliceW : Tryd.prog.underlying 30 = some (.slice 9) := by kernel_rfl
theorem infoW : (Tryd.prog.info? 9).map (fun i => (i.zero, i.size, i.bytes)) = some (some (.string ByteArray.empty), 1, 16) := by kernel_rfl
/-- texts as cells -/
def ss (L : List (List UInt8)) : List Value := L.map fun l => .string ⟨l.toArray⟩
@[simp] theorem length_ss (L : List (List UInt8)) : (ss L).length = L.length := by simp [ss]
theorem ss_app (L M : List (List UInt8)) : ss (L ++ M) = ss L ++ ss M := by simp [ss]
def lat (L : List (List UInt8)) (i : Nat) : List UInt8 := L[i]?.getD []
theorem ss_at {L : List (List UInt8)} {i : Nat} (h : i < L.length) : (ss L)[i]? = some (.string ⟨(lat L i).toArray⟩) := by simp [ss, lat, h]
theorem oneCell_ss (L : List (List UInt8)) : ∀ x ∈ ss L, x.oneCell' = true := by
  intro x hx
  unfold ss at hx
  rw [List.mem_map] at hx
  obtain ⟨b, -, rfl⟩ := hx
  rfl
theorem cut_eq (s : ByteArray) (f i : Nat) (hf : f ≤ i) : s.extract f i = ⟨((s.data.toList.take i).drop f).toArray⟩ := by
  apply ByteArray.ext
  apply Array.ext'
  rw [Lib.extract_data]
  rw [List.take_drop]
  congr 2
  omega
theorem tail_eq (s : ByteArray) (f : Nat) : s.extract f s.size = ⟨(s.data.toList.drop f).toArray⟩ := by
  apply ByteArray.ext
  apply Array.ext'
  exact Lib.extract_to_end s f

set_option maxRecDepth 100000 in
set_option maxHeartbeats 4000000 in
theorem SplitS (s : ByteArray) (w : World) (hs : s.size ≤ 1048576) :
    Calls Tryd.prog 53 #[.string s, .int .u8 32] w fun e w' => ∃ v, e = .returned v ∧ Own w' w.heap.size 9 v (ss (parts s.data.toList)) ∧ Below w.heap.size w w' := by
  have hO := own_empty w 9 (B := w.heap.size) (Nat.le_refl _)
  have hA := (Below.refl w.heap.size w).alloc (Nat.le_refl _) (.cells #[] 9)
  have hln : s.data.toList.length = s.size := rfl
  go_enter Tryd.func53, Tryd.ntmps53
  go_wp2_with fail
  generalize w.alloc (.cells #[] 9) = w1 at *
  generalize Value.slice (some ⟨w.heap.size, 0, none⟩) 0 0 = O at *
  replace hO := hid hO
  replace hA := hid hA
  go_loopw [5, 6, 7] (fun o fv iv wr => ∃ (d : List (List UInt8)) (f i : Nat), Hid (Way s.data.toList d f i) ∧ f ≤ i ∧ i ≤ s.size ∧ fv = .int .i64 (f : Int) ∧ iv = .int .i64 (i : Int) ∧ Own wr w.heap.size 9 o (ss d) ∧ Below w.heap.size w wr) (fun _ _ i _ => s.size - (intOf i).toNat)
  case atStart => exact ⟨[], 0, 0, hid (Way.start _), Nat.le_refl _, Nat.zero_le _, rfl, rfl, hO.out, hA.out⟩
  case round =>
  clear hO hA
  obtain ⟨d, f, i, hW, hfi, hi, rfl, rfl, ho, hb⟩ := hrel
  have hdl := hW.out.len
  rw [hln] at hdl
  by_cases hlt : i < s.size
  · have hby : ((s[i].toNat : Nat) : Int) = byteAt s i := byteAt_eq s hlt
    have hkl : i < s.data.toList.length := hlt
    have hbk : byteAt s i = ((s.data.toList[i]).toNat : Int) := by unfold byteAt; rw [List.getElem?_eq_getElem hkl]; rfl
    by_cases hc : s.data.toList[i] = 32
    · have h32 : (byteAt s i == 32) = true := by rw [hbk, hc]; rfl
      have hnew := hid (hW.out.blank hkl hc)
      have hcut := cut_eq s f i hfi
      obtain ⟨P, hP⟩ : ∃ P : ByteArray, P = ⟨((s.data.toList.take i).drop f).toArray⟩ := ⟨_, rfl⟩
      rw [← hP] at hcut
      have hA4 := (Below.refl wr.heap.size wr).alloc (Nat.le_refl _) (.cells #[.string P] 9)
      obtain ⟨v', w8, hrun, ho5, hg5⟩ := app_run (T := 30) (ty := 30) (xs := ss d) (ys := [.string P]) sliceW infoW rfl (ho.below hA4) (reads_one wr (.string P) 9) (by simp; rfl) (by have := hb.size; rw [World.size_alloc]; omega) (by simp; omega) (by decide)
      have hr5 : ∀ q, blk _ = some q → w.heap.size ≤ q := fun q hq => ((ho.below hA4).blk_lt hq).1
      have hb5 := hid ((hb.trans (hA4.mono hb.size)).grown hg5 (by have := hb.size; rw [World.size_alloc]; omega) hr5)
      have ho5' := hid (show Own w8 w.heap.size 9 v' (ss (d ++ [(s.data.toList.take i).drop f])) by rw [ss_app, show ss [(s.data.toList.take i).drop f] = [.string P] from by rw [hP]; rfl]; exact ho5)
      replace hP := hid hP
      replace hbk := hid hbk
      replace hc := hid hc
      clear ho hA4 ho5 hg5 hr5 hb hW hkl hbk hc
      go_wp2_with (at_builtin; refine wpList_app hrun rfl _ _ rfl rfl rfl ?_)
      go_roundw
      case rel => exact ⟨_, i + 1, i + 1, hid hnew.out, Nat.le_refl _, by omega, by go_num, by go_num, ho5'.out, hb5.out⟩
      case measure => simp [intOf] <;> omega
    · have h32 : (byteAt s i == 32) = false := by
        rw [hbk, beq_eq_false_iff_ne]
        intro e
        apply hc
        exact UInt8.toNat_inj.1 (by have : (32 : UInt8).toNat = 32 := rfl; omega)
      have hnew := hid (hW.out.other hkl hc)
      replace hbk := hid hbk
      replace hc := hid hc
      replace ho := hid ho
      replace hb := hid hb
      clear hW hkl hbk hc
      go_wp2_with fail
      go_roundw
      case rel => exact ⟨d, f, i + 1, hid hnew.out, by omega, by omega, rfl, by go_num, ho.out, hb.out⟩
      case measure => simp [intOf] <;> omega
  · obtain rfl : i = s.size := by omega
    have hres := hid hW.out.done
    have hcut := tail_eq s f
    obtain ⟨P, hP⟩ : ∃ P : ByteArray, P = ⟨(s.data.toList.drop f).toArray⟩ := ⟨_, rfl⟩
    rw [← hP] at hcut
    have hA4 := (Below.refl wr.heap.size wr).alloc (Nat.le_refl _) (.cells #[.string P] 9)
    obtain ⟨v', w8, hrun, ho5, hg5⟩ := app_run (T := 30) (ty := 30) (xs := ss d) (ys := [.string P]) sliceW infoW rfl (ho.below hA4) (reads_one wr (.string P) 9) (by simp; rfl) (by have := hb.size; rw [World.size_alloc]; omega) (by simp; omega) (by decide)
    have hr5 : ∀ q, blk _ = some q → w.heap.size ≤ q := fun q hq => ((ho.below hA4).blk_lt hq).1
    have hb5 := hid ((hb.trans (hA4.mono hb.size)).grown hg5 (by have := hb.size; rw [World.size_alloc]; omega) hr5)
    have ho5' := hid (show Own w8 w.heap.size 9 v' (ss (parts s.data.toList)) by
      have e : parts s.data.toList = d ++ [s.data.toList.drop f] := hres.out
      rw [e, ss_app, show ss [s.data.toList.drop f] = [.string P] from by rw [hP]; rfl]; exact ho5)
    replace hP := hid hP
    clear ho hA4 ho5 hg5 hr5 hb hW
    go_wp2_with (at_builtin; refine wpList_app hrun rfl _ _ rfl rfl rfl ?_)
    go_ret
    exact ⟨_, rfl, ho5'.out, hb5.out⟩


theorem parts_len (l : List UInt8) : (parts l).length ≤ l.length + 1 := by
  induction l with
  | nil => simp [parts]
  | cons c r ih =>
    unfold parts
    split
    · simp; omega
    · have : (addTo [c] (parts r)).length = (parts r).length := by
        have := parts_ne r
        cases hr : parts r with
        | nil => exact absurd hr this
        | cons p ps => rfl
      simp; omega
theorem str_empty (p : List UInt8) : (⟨p.toArray⟩ : ByteArray).toList.isEmpty = p.isEmpty := by rw [ByteArray.toList_eq]
theorem words_step {L : List (List UInt8)} {k : Nat} (h : k < L.length) : ((L.take (k + 1)).filter fun p => !p.isEmpty) = (L.take k).filter (fun p => !p.isEmpty) ++ (if (lat L k).isEmpty then [] else [lat L k]) := by
  have e : lat L k = L[k] := by simp [lat, h]
  rw [List.take_add_one, List.getElem?_eq_getElem h, List.filter_append, e]
  congr 1
  cases hh : L[k].isEmpty with
  | true => simp only [Option.toList_some, List.filter_cons, List.filter_nil, hh]; rfl
  | false => simp only [Option.toList_some, List.filter_cons, List.filter_nil, hh]; rfl

set_option maxRecDepth 100000 in
set_option maxHeartbeats 4000000 in
theorem SplitWordsS (s : ByteArray) (w : World) (hs : s.size ≤ 1048576) :
    Calls Tryd.prog 17 #[.string s] w fun e w' => ∃ v, e = .returned v ∧ Own w' w.heap.size 9 v (ss (wordsOf s.data.toList)) ∧ Below w.heap.size w w' := by
  have hpl := parts_len s.data.toList
  have hln : s.data.toList.length = s.size := rfl
  go_enter Tryd.func17, Tryd.ntmps17
  go_wp2_with fail
  refine (SplitS s w hs).mono ?_
  rintro e w1 ⟨v, rfl, hv, hb1⟩
  have hw : wordsOf s.data.toList = (parts s.data.toList).filter fun p => !p.isEmpty := rfl
  replace hw := hid hw
  generalize parts s.data.toList = L at *
  have hL : L.length ≤ 1048577 := by omega
  clear hpl
  have hR := hv.reads
  have hlen := hR.len (P := Tryd.prog) 30 3 ⟨_, sliceW⟩
  rw [length_ss] at hlen
  have hO := own_empty w1 9 (B := w1.heap.size) (Nat.le_refl _)
  have hA := (Below.refl w1.heap.size w1).alloc (Nat.le_refl _) (.cells #[] 9)
  replace hb1 := hid hb1
  clear hv
  go_wp2_with fail
  generalize w1.alloc (.cells #[] 9) = w2 at *
  generalize Value.slice (some ⟨w1.heap.size, 0, none⟩) 0 0 = O at *
  replace hO := hid hO
  replace hA := hid hA
  go_loopw [4, 5] (fun o iv wr => ∃ (i : Nat), i ≤ L.length ∧ iv = .int .i64 (i : Int) ∧ Own wr w1.heap.size 9 o (ss ((L.take i).filter fun p => !p.isEmpty)) ∧ Below w1.heap.size w1 wr) (fun _ i _ => L.length - (intOf i).toNat)
  case atStart => exact ⟨0, Nat.zero_le _, rfl, hO.out, hA.out⟩
  case round =>
  clear hO hA
  obtain ⟨i, hi, rfl, ho, hb⟩ := hrel
  by_cases hlt : i < L.length
  · have hix := hR.idx (P := Tryd.prog) 30 sliceW sizeW .i64 (i : Int) (by omega) (by rw [length_ss]; omega)
    simp only [Int.toNat_natCast] at hix
    have hc := (hR.below hb).cell i _ (ss_at hlt)
    have hst := words_step hlt
    have hem := str_empty (lat L i)
    have hfl : ((L.take i).filter fun p => !p.isEmpty).length ≤ 1048577 := Nat.le_trans (List.length_filter_le _ _) (by rw [List.length_take]; omega)
    generalize hF : (L.take i).filter (fun p => !p.isEmpty) = F at *
    replace hF := hid hF
    cases he : (lat L i).isEmpty with
    | true =>
      rw [he] at hem hst
      have hst2 := hid (show ((L.take (i + 1)).filter fun p => !p.isEmpty) = F by rw [hst]; simp)
      clear hst he
      generalize (⟨(lat L i).toArray⟩ : ByteArray) = P at *
      replace ho := hid ho
      replace hb := hid hb
      go_wp2_with fail
      go_roundw
      case rel => exact ⟨i + 1, by omega, by go_num, by rw [hst2.out]; exact ho.out, hb.out⟩
      case measure => simp [intOf] <;> omega
    | false =>
      rw [he] at hem hst
      have hst2 := hid (show ((L.take (i + 1)).filter fun p => !p.isEmpty) = F ++ [lat L i] by rw [hst]; simp)
      have hs1 := hid (show ss [lat L i] = [.string ⟨(lat L i).toArray⟩] from rfl)
      clear hst he
      generalize (⟨(lat L i).toArray⟩ : ByteArray) = P at *
      have hA4 := (Below.refl wr.heap.size wr).alloc (Nat.le_refl _) (.cells #[.string P] 9)
      obtain ⟨v', w8, hrun, ho5, hg5⟩ := app_run (T := 30) (ty := 30) (xs := ss F) (ys := [.string P]) sliceW infoW rfl (ho.below hA4) (reads_one wr (.string P) 9) (by simp; rfl) (by have := hb.size; rw [World.size_alloc]; omega) (by simp; omega) (by decide)
      have hr5 : ∀ q, blk _ = some q → w1.heap.size ≤ q := fun q hq => ((ho.below hA4).blk_lt hq).1
      have hb5 := hid ((hb.trans (hA4.mono hb.size)).grown hg5 (by have := hb.size; rw [World.size_alloc]; omega) hr5)
      have ho5' := hid (show Own w8 w1.heap.size 9 v' (ss (F ++ [lat L i])) by rw [ss_app, hs1.out]; exact ho5)
      replace hb := hid hb
      clear ho hA4 ho5 hg5 hr5 hb
      go_wp2_with (at_builtin; refine wpList_app hrun rfl _ _ rfl rfl rfl ?_)
      go_roundw
      case rel => exact ⟨i + 1, by omega, by go_num, by rw [hst2.out]; exact ho5'.out, hb5.out⟩
      case measure => simp [intOf] <;> omega
  · obtain rfl : i = L.length := by omega
    have htl : L.take L.length = L := List.take_of_length_le (Nat.le_refl _)
    rw [htl, ← hw.out] at ho
    have hz := hb1.out.size
    have ho2 := hid (ho.mono hz)
    have hb2 := hid (hb1.out.trans (hb.mono hz))
    clear ho hb htl
    go_wp2_with fail
    go_ret
    exact ⟨_, rfl, ho2.out, hb2.out⟩


end Go.Proofs.YtkgdbobhppmaiaaDoor
