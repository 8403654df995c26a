/- Contracts: the decimal form of a number. -/
import Derived.Test.YtkgdbobhppmaiaaDoorApp
import Derived.Test.YtkgdbobhppmaiaaDoorBas
import Derived.Test.YtkgdbobhppmaiaaDoorDig
import Derived.Test.YtkgdbobhppmaiaaDoorDoor
import Derived.Test.YtkgdbobhppmaiaaDoorShelf
import Derived.Laws.IdiomStrings
namespace Go.Proofs.YtkgdbobhppmaiaaDoor
open Go.RowKit
open Go.Lib (itoa decDigits)

theorem str_app (l m : List UInt8) : ((⟨l.toArray⟩ : ByteArray) ++ ⟨m.toArray⟩ : ByteArray) = ⟨(l ++ m).toArray⟩ := by
  apply ByteArray.ext
  simp
/-- bytes as cells -/
def ub (l : List UInt8) : List Value := l.map fun b => .int .u8 (b.toNat : Int)
@[simp] theorem length_ub (l : List UInt8) : (ub l).length = l.length := by simp [ub]
theorem ub_app (l m : List UInt8) : ub (l ++ m) = ub l ++ ub m := by simp [ub]
theorem ub_at {l : List UInt8} {i : Nat} (h : i < l.length) : (ub l)[i]? = some (.int .u8 (l[i].toNat : Int)) := by simp [ub, h]
theorem oneCell_ub (l : List UInt8) : ∀ x ∈ ub l, x.oneCell' = true := by
  intro x hx
  unfold ub at hx
  rw [List.mem_map] at hx
  obtain ⟨b, -, rfl⟩ := hx
  rfl
theorem sliceU : Tryd.prog.underlying 46 = some (.slice 5) := by kernel_rfl
theorem infoU : (Tryd.prog.info? 5).map (fun i => (i.zero, i.size, i.bytes)) = some (some (.int .u8 0), 1, 1) := by kernel_rfl
theorem str_run (v : Value) (l : List UInt8) (w : World) (h : Reads w v (ub l)) : (convert 46 9 v).run Tryd.prog w = .ok (.string ⟨l.toArray⟩) w := by
  obtain ⟨a, c, rfl, -⟩ := h.form
  rw [length_ub]
  cases a with
  | none =>
    have hl : l = [] := by
      cases l with
      | nil => rfl
      | cons b r =>
        obtain ⟨a, c, e, hne⟩ := h.form
        cases e
        exact absurd rfl (hne (by simp [ub]))
    subst hl
    exact run_convert_bytes_nil w _ _ sliceU Tryd.underlying5 _ _ _ Tryd.underlying9
  | some a =>
    refine run_convert_bytes_back w _ _ _ a c l sliceU Tryd.underlying5 Tryd.underlying9 fun j hj => ?_
    exact h.cell j _ (ub_at hj)

theorem dgs_len (N : Nat) (h : N ≤ 9223372036854775808) : (dgs N).length ≤ 19 := by
  unfold dgs
  split
  · simp
  · exact dg_len 19 N (by omega) (by omega)

set_option maxRecDepth 100000 in
set_option maxHeartbeats 2000000 in
theorem DecI (n : Int) (w : World) (h0 : -9223372036854775808 ≤ n) (h1 : n ≤ 9223372036854775807) (hT : Tb w) :
    Calls Tryd.prog 13 #[.int .i64 n] w fun e w' => e = .returned (.string ⟨(itoa n).toArray⟩) ∧ Below w.heap.size w w' := by
  go_enter Tryd.func13, Tryd.ntmps13
  go_wp2_with fail
  refine (Tryd.strconv_FormatInt_10 n h0 h1 w hT).mono ?_
  rintro e w1 ⟨rfl, k, os, rfl⟩
  have hb := Lib.below_grow w.heap.size w (Nat.le_refl _) k os
  generalize Go.Sort.grow (w.drewN k) os = w1 at *
  go_wp2_with fail
  go_ret
  exact ⟨rfl, hb⟩

set_option maxRecDepth 100000 in
set_option maxHeartbeats 4000000 in
theorem DecS (n : Int) (w : World) (h0 : -9223372036854775808 ≤ n) (h1 : n ≤ 9223372036854775807) :
    Calls Tryd.prog 47 #[.int .i64 n] w fun e w' => e = .returned (.string ⟨(itoa n).toArray⟩) ∧ Below w.heap.size w w' := by
  have hO := own_empty w 5 (B := w.heap.size) (Nat.le_refl _)
  have hA := (Below.refl w.heap.size w).alloc (Nat.le_refl _) (.cells #[] 5)
  go_enter Tryd.func47, Tryd.ntmps47
  go_wp2_with fail
  generalize w.alloc (.cells #[] 5) = w1 at *
  generalize Value.slice (some ⟨w.heap.size, 0, none⟩) 0 0 = O at *
  replace hO := hid hO
  replace hA := hid hA
  by_cases hn : 0 ≤ n
  · obtain ⟨N, rfl⟩ := Int.eq_ofNat_of_zero_le hn
    go_loopw [3, 4, 5] (fun o c _ wr => ∃ (K : Nat) (l : List UInt8), K ≤ N ∧ c = .int .i64 (K : Int) ∧ Hid (dgs K ++ l = dgs N) ∧ Own wr w.heap.size 5 o (ub l) ∧ Below w.heap.size w wr) (fun _ c _ _ => (intOf c).natAbs)
    case atStart => exact ⟨N, [], Nat.le_refl _, rfl, hid (by rw [List.append_nil]), hO.out, hA.out⟩
    case round =>
    clear hO hA
    obtain ⟨K, l, hK, rfl, hl, ho, hb⟩ := hrel
    have hll : l.length ≤ 30 := by
      have h2 := congrArg List.length hl.out
      rw [List.length_append] at h2
      have h3 := dgs_len N (by omega)
      omega
    by_cases hk : K = 0
    · subst hk
      have hln := ho.reads.len (P := Tryd.prog) 46 3 ⟨_, sliceU⟩
      rw [length_ub] at hln
      have hcv := str_run _ l wr ho.reads
      have hres := hid (itoa_dgs ((N : Int)))
      have hl0 : l = dgs N := by simpa [dgs] using hl.out
      clear hl
      replace hb := hid hb
      clear ho
      by_cases hN0 : N = 0
      · subst hN0
        have : l = [] := by rw [hl0]; rfl
        subst this
        simp only [List.length_nil] at hln
        clear hl0 hcv
        go_wp2_with fail
        go_ret
        exact ⟨by rw [hres.out]; rfl, hb.out⟩
      · have hNp : (0 : Int) < (N : Int) := by omega
        have hne : ((l.length : Int) == 0) = false := beq_eq_false_iff_ne.2 (by
          have : 1 ≤ l.length := by rw [hl0]; unfold dgs; rw [if_neg hN0]; exact dg_pos N
          omega)
        have he : l = itoa ((N : Int)) := by
          rw [hres.out, if_neg (by omega), if_neg (by omega), hl0]
          simp
        clear hres
        replace he := hid he
        clear hl0
        go_wp2_with fail
        go_ret
        exact ⟨by rw [← he.out]; first | rfl | (congr 2; simp), hb.out⟩
    · obtain ⟨d, hd⟩ : ∃ d : Nat, d = K % 10 := ⟨_, rfl⟩
      have hd10 : d < 10 := by omega
      have hk' : ¬ (K : Int) = 0 := by omega
      have hkd : (K : Int) % 10 = (d : Int) := by omega
      have hnew := hid (show dgs (K / 10) ++ (UInt8.ofNat (48 + d) :: l) = dgs N by rw [← hl.out, dgs_step hk, ← hd]; simp)
      have hu8 := Go.IntWalk.u8_in (48 + (d : Int)) (by omega)
      have hch : ((UInt8.ofNat (48 + d)).toNat : Int) = 48 + (d : Int) := by rw [chr_nat hd10]; omega
      have hlit := own_arr wr 5 #[.int .u8 (48 + (d : Int))] 1 rfl (by omega) hb.size
      have hbA := (Below.refl wr.heap.size wr).alloc (Nat.le_refl _) (.cells #[.int .u8 (48 + (d : Int))] 5)
      have hbb := hb.trans (hbA.mono hb.size)
      obtain ⟨v', w8, hrun, ho5, hg5⟩ := app_run (T := 46) (ty := 46) (xs := [.int .u8 (48 + (d : Int))]) (ys := ub l) sliceU infoU rfl hlit (ho.reads.below hbA) (oneCell_ub l) hbb.size (by simp; omega) (by decide)
      have hr5 : ∀ q, blk _ = some q → w.heap.size ≤ q := fun q hq => (hlit.blk_lt hq).1
      have hb5 := hid (hbb.grown hg5 hbb.size hr5)
      have ho5' := hid (show Own w8 w.heap.size 5 v' (ub (UInt8.ofNat (48 + d) :: l)) by rw [show ub (UInt8.ofNat (48 + d) :: l) = [.int .u8 (48 + (d : Int))] ++ ub l from by simp only [ub, List.map_cons, hch]; rfl]; exact ho5)
      replace ho := hid ho
      replace hb := hid hb
      replace hch := hid hch
      replace hd := hid hd
      clear hl hlit hbA hbb ho5 hg5 hr5 hch ho
      go_wp2_with (at_builtin; refine wpList_app hrun rfl _ _ rfl rfl rfl ?_)
      go_roundw
      case rel => exact ⟨K / 10, _, by omega, by go_num, hnew, ho5'.out, hb5.out⟩
      case measure => simp [intOf] <;> omega
  · obtain ⟨N, rfl, hN1⟩ : ∃ N : Nat, n = -(N : Int) ∧ 1 ≤ N := ⟨n.natAbs, by omega, by omega⟩
    clear hn
    have hNp : -(N : Int) < 0 := by omega
    have hres := hid (show itoa (-(N : Int)) = 45 :: dgs N by rw [itoa_dgs, if_neg (by omega), if_pos hNp]; simp)
    have hdl := hid (dgs_len N (by omega))
    have hd1 := hid (show 1 ≤ (dgs N).length by unfold dgs; rw [if_neg (by omega)]; exact dg_pos N)
    have hNb := hid (show (N : Int) ≤ 9223372036854775808 by omega)
    generalize hgn : -(N : Int) = n at *
    replace hgn := hid hgn.symm
    go_loopw [3, 4, 5] (fun o c _ wr => ∃ (K : Nat) (l : List UInt8) (k : Int), K ≤ N ∧ c = .int .i64 k ∧ Hid (k = -(K : Int)) ∧ Hid (dgs K ++ l = dgs N) ∧ Own wr w.heap.size 5 o (ub l) ∧ Below w.heap.size w wr) (fun _ c _ _ => (intOf c).natAbs)
    case atStart => exact ⟨N, [], n, Nat.le_refl _, rfl, hgn, hid (by rw [List.append_nil]), hO.out, hA.out⟩
    case round =>
    clear hO hA
    obtain ⟨K, l, k, hK, rfl, hkK, hl, ho, hb⟩ := hrel
    have hll : l.length ≤ 30 := by
      have h2 := congrArg List.length hl.out
      rw [List.length_append] at h2
      have := hdl.out
      omega
    have hkb : -9223372036854775808 ≤ k ∧ k ≤ 0 := by have := hkK.out; have := hNb.out; omega
    by_cases hk : K = 0
    · have hk0 : k = 0 := by have := hkK.out; omega
      subst hk0
      subst hk
      have hln := ho.reads.len (P := Tryd.prog) 46 3 ⟨_, sliceU⟩
      rw [length_ub] at hln
      have hcv := str_run _ l wr ho.reads
      have hl0 : l = dgs N := by simpa [dgs] using hl.out
      have hne : ((l.length : Int) == 0) = false := beq_eq_false_iff_ne.2 (by
        have := hd1.out
        rw [← hl0] at this
        omega)
      rw [← hl0] at hres
      clear hl hl0
      replace hb := hid hb
      clear ho hkK hkb
      have he := hid (str_app [45] l)
      go_wp2_with fail
      go_ret
      refine ⟨?_, hb.out⟩
      have e2 : itoa (-(N : Int)) = [45] ++ l := by rw [← hgn.out]; exact hres.out
      rw [e2, ← he.out]; rfl
    · obtain ⟨d, hd⟩ : ∃ d : Nat, d = K % 10 := ⟨_, rfl⟩
      obtain ⟨dd, hdd⟩ : ∃ dd : Int, dd = -(d : Int) := ⟨_, rfl⟩
      obtain ⟨kq, hkq0⟩ : ∃ kq : Int, kq = -((K / 10 : Nat) : Int) := ⟨_, rfl⟩
      obtain ⟨ch, hch0⟩ : ∃ ch : Int, ch = 48 + (d : Int) := ⟨_, rfl⟩
      have hd10 : d < 10 := by omega
      have hddb : -9 ≤ dd ∧ dd ≤ 0 := by omega
      have hchb : 48 ≤ ch ∧ ch ≤ 57 := by omega
      have hkn : ¬ k = 0 := by have := hkK.out; omega
      have hkm : Int.tmod k 10 = dd := by rw [hkK.out, hdd, Int.neg_tmod, Int.tmod_eq_emod_of_nonneg (by omega)]; omega
      have hkq : Int.tdiv k 10 = kq := by rw [hkK.out, hkq0, Int.neg_tdiv, Int.tdiv_eq_ediv_of_nonneg (by omega)]; omega
      have hnew := hid (show dgs (K / 10) ++ (UInt8.ofNat (48 + d) :: l) = dgs N by rw [← hl.out, dgs_step hk, ← hd]; simp)
      have hu8 := Go.IntWalk.u8_in ch (by omega)
      have hch : ((UInt8.ofNat (48 + d)).toNat : Int) = ch := by rw [chr_nat hd10]; omega
      have hlit := own_arr wr 5 #[.int .u8 ch] 1 rfl (by omega) hb.size
      have hbA := (Below.refl wr.heap.size wr).alloc (Nat.le_refl _) (.cells #[.int .u8 ch] 5)
      have hbb := hb.trans (hbA.mono hb.size)
      obtain ⟨v', w8, hrun, ho5, hg5⟩ := app_run (T := 46) (ty := 46) (xs := [.int .u8 ch]) (ys := ub l) sliceU infoU rfl hlit (ho.reads.below hbA) (oneCell_ub l) hbb.size (by simp; omega) (by decide)
      have hr5 : ∀ q, blk _ = some q → w.heap.size ≤ q := fun q hq => (hlit.blk_lt hq).1
      have hb5 := hid (hbb.grown hg5 hbb.size hr5)
      have ho5' := hid (show Own w8 w.heap.size 5 v' (ub (UInt8.ofNat (48 + d) :: l)) by rw [show ub (UInt8.ofNat (48 + d) :: l) = [.int .u8 ch] ++ ub l from by simp only [ub, List.map_cons, hch]; rfl]; exact ho5)
      have hm1 : kq.natAbs < k.natAbs := by have := hkK.out; omega
      by_cases hd0 : d = 0
      case' pos =>
        have hd1 : ¬ dd < 0 := by omega
        have hs1 : 48 + dd = ch := by omega
      case' neg =>
        have hd1 : dd < 0 := by omega
        have hs1 : 48 + -dd = ch := by omega
        have hs2 : 48 - dd = ch := by omega
      all_goals
        replace ho := hid ho
        replace hb := hid hb
        replace hch := hid hch
        replace hd := hid hd
        replace hdd := hid hdd
        replace hch0 := hid hch0
        replace hkq0 := hid hkq0
        clear hl hlit hbA hbb ho5 hg5 hr5 hch ho hd0
        go_wp2_with (at_builtin; refine wpList_app hrun rfl _ _ rfl rfl rfl ?_)
        go_roundw
        case rel => exact ⟨K / 10, _, kq, by omega, rfl, hid hkq0.out, hnew, ho5'.out, hb5.out⟩
        case measure => simpa [intOf] using hm1

end Go.Proofs.YtkgdbobhppmaiaaDoor
