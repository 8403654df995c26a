/- Contracts: sums of sizes, words for blocks (the reference's side). -/
import Derived.Test.YtoomkkeffejcdaaDbw
import Derived.Test.YtoomkkeffejcdaaCat
import Derived.Test.YtoomkkeffejcdaaDel
namespace Go.Proofs.Ytoomkkeffejcdaa
open Go.RowKit
open Pm

/-- a call of a Go function with four arguments, as one step of a region that draws -/
theorem step_call4 {P : Program} {w : World} {ops : Array Oper} {o : Oper} {a : Act} {K : Act → World → Prop} {Q : Exit → Act → World → Prop} {E : Prop} {f : FuncId} {u1 u2 u3 u4 : Value} {T1 T2 T3 T4 : TypeId} {R : Ending → World → Prop}
    (hc : Calls P f #[u1, u2, u3, u4] w R) (hf : ∀ w, (callFunc f #[u1, u2, u3, u4]).run P w = .ok (.enter f #[u1, u2, u3, u4]) w) (hg : o.guard = none) (x y z t : Operand)
    (ho : o.op = .call { callee := .value (.func f), args := #[x, y, z, t], argTypes := #[T1, T2, T3, T4] }) (hx : a.eval x = u1) (hy : a.eval y = u2) (hz : a.eval z = u3) (ht : a.eval t = u4)
    (hK : ∀ e w', R e w' → ∃ v, e = .returned v ∧ K (a.put o.dst v) w') : if Region.wanted o (yielded ops a.tmps) = true then Oper.wp P o a w K Q else E := by
  have hw : Region.wanted o (yielded ops a.tmps) = true := by simp [Region.wanted, hg]
  rw [if_pos hw]
  unfold Oper.wp
  have hr : (execOp a.eval o).run P w = .ok (.enter f #[u1, u2, u3, u4]) w := by
    have hx' : Act.eval a x = u1 := hx
    have hy' : Act.eval a y = u2 := hy
    have hz' : Act.eval a z = u3 := hz
    have ht' : Act.eval a t = u4 := ht
    have h0 : a.eval (.func f) = .func (.func f) #[] #[] := rfl
    simp [execOp, ho, resolve, invoke, hx', hy', hz', ht', h0, Deferred.ofValue, hf]
  rw [hr]
  refine hc.mono ?_
  intro e w' hr
  obtain ⟨v, rfl, hk⟩ := hK e w' hr
  exact hk

theorem swap_specI (f a b s : Int) (w : World) (hs : s = 1 ∨ s = -1) (f0 : 0 ≤ f) (f1 : f ≤ 100) (a0 : 0 ≤ a) (a1 : a ≤ 4) (b0 : 0 ≤ b) (b1 : b ≤ 4) :
    Calls Try.prog 83 #[.int .i64 f, .int .i64 a, .int .i64 b, .int .i64 s] w fun e w' => ∃ u, e = .returned u ∧ Own w' w.heap.size 2 u (ints ((bl f.toNat a.toNat b.toNat).map (s * ·))) ∧ Below w.heap.size w w' := by
  obtain ⟨f, rfl⟩ := Int.eq_ofNat_of_zero_le f0
  obtain ⟨a, rfl⟩ := Int.eq_ofNat_of_zero_le a0
  obtain ⟨b, rfl⟩ := Int.eq_ofNat_of_zero_le b0
  simp only [Int.toNat_natCast]
  exact swap_spec f a b s w hs (by omega) (by omega) (by omega)
theorem block_implI (f a b s : Int) (w : World) (hs : s = 1 ∨ s = -1) (f0 : 0 ≤ f) (f1 : f ≤ 100) (a0 : 0 ≤ a) (a1 : a ≤ 4) (b0 : 0 ≤ b) (b1 : b ≤ 4) :
    Calls Try.prog 72 #[.int .i64 f, .int .i64 a, .int .i64 b, .int .i64 s] w fun e w' => ∃ u, e = .returned u ∧ Own w' w.heap.size 2 u (ints ((bl f.toNat a.toNat b.toNat).map (s * ·))) ∧ Below w.heap.size w w' := by
  obtain ⟨f, rfl⟩ := Int.eq_ofNat_of_zero_le f0
  obtain ⟨a, rfl⟩ := Int.eq_ofNat_of_zero_le a0
  obtain ⟨b, rfl⟩ := Int.eq_ofNat_of_zero_le b0
  simp only [Int.toNat_natCast]
  exact block_impl f a b s w hs (by omega) (by omega) (by omega)

theorem sumF_take {z : List Int} {k : Nat} (h : k ≤ z.length) : sumF (z.take k) = sumTo (fun i => nth z i) k := by
  unfold sumF
  rw [List.length_take, Nat.min_eq_left h]
  refine sumTo_congr fun i hi => ?_
  simp [nth, hi]
theorem Szs.take {z : List Int} (h : Szs z) (k : Nat) : Szs (z.take k) := by
  intro i hi
  rw [List.length_take] at hi
  have e : nth (z.take k) i = nth z i := by simp [nth, show i < k by omega]
  rw [e]; exact h i (by omega)
set_option maxHeartbeats 1000000 in
theorem sum_impl (v : Value) (z : List Int) (w : World) (h : Reads w v (ints z)) (hz : Szs z) (hl : z.length ≤ 100) :
    Calls Try.prog 70 #[v] w fun e w' => e = .returned (.int .i64 (sumF z)) ∧ w = w' := by
  have hlen := h.len (P := Try.prog) 22 3 ⟨_, sliceI⟩
  simp only [length_ints] at hlen
  replace hz := hid hz
  go_enter Try.func70, Try.ntmps70
  go_wp2_with fail
  go_loop [3, 5, 8] (fun x _ i => ∃ k : Nat, k ≤ z.length ∧ i = .int .i64 k ∧ x = .int .i64 (sumTo (fun i => nth z i) k)) (fun _ _ i => z.length - (intOf i).toNat)
  case atStart => exact ⟨0, by omega, rfl, rfl⟩
  case round =>
    obtain ⟨k, hk, rfl, rfl⟩ := hrel
    have hsz := sum_bd4 hz.out hk
    by_cases hlt : k < z.length
    · have hi := h.idx 22 sliceI sizeI .i64 k (by omega) (by simpa using hlt)
      simp only [Int.toNat_natCast] at hi
      have hc := h.int hlt
      have ha := hz.out k hlt
      have hn := hid (sumTo_succ (fun i => nth z i) k)
      generalize sumTo (fun i => nth z i) k = s at *
      generalize nth z k = a at *
      go_wp2_with fail
      go_round
      case rel => exact ⟨k + 1, by omega, by go_num, by rw [hn.out]⟩
      case measure => simp [intOf] <;> omega
    · obtain rfl : k = z.length := by omega
      go_wp2_with fail
      go_ret
      exact ⟨rfl, rfl⟩

theorem nth_inn {l : List Int} {i : Nat} (h : i < l.length) : nth l i ∈ l := by
  have e : nth l i = l[i] := by simp [nth, h]
  rw [e]; exact List.getElem_mem h
/-- one letter of a word for blocks -/
theorem dwI_step {l zz : List Int} {n k t : Nat} {s : Int} (hk : k < l.length) (hS : Szs zz) (hn : zz.length = n) (hL : Lv n (nth l k)) (ht : (nth l k).natAbs = t + 1) (hs : (nth l k).sign = s) :
    dwI (l.drop k) zz = (bl (sumTo (fun i => nth zz i) t).toNat (nth zz t).toNat (nth zz (t + 1)).toNat).map (s * ·) ++ dwI (l.drop (k + 1)) (swapAt zz t) := by
  have e1 : l.drop k = nth l k :: l.drop (k + 1) := by rw [List.drop_eq_getElem_cons hk]; simp [nth, hk]
  have e2 := dl_nth hS hn hL
  have h2 := hL.2
  unfold dwI
  rw [e1, dw, e2, ht, hs, Nat.add_sub_cancel, sz_swap (by omega)]
theorem dwI_len {l zz : List Int} {n k t : Nat} {s : Int} (hS : Szs zz) (hn : zz.length = n) (hL : Lv n (nth l k)) (ht : (nth l k).natAbs = t + 1) (hs : (nth l k).sign = s) :
    ((bl (sumTo (fun i => nth zz i) t).toNat (nth zz t).toNat (nth zz (t + 1)).toNat).map (s * ·)).length ≤ 16 := by
  have e2 := dl_nth hS hn hL
  have e3 := dl_len hS hn hL
  rw [e2, ht, hs, Nat.add_sub_cancel] at e3
  exact e3


set_option maxHeartbeats 8000000 in
theorem double_spec (v u : Value) (l z : List Int) (n : Nat) (w : World) (h : Reads w v (ints l)) (h' : Reads w u (ints z)) (hn : n ≤ 12) (hzl : z.length = n) (hz : Szs z) (hl : l.length ≤ 40) (hL : ∀ k ∈ l, Lv n k) :
    Calls Try.prog 66 #[v, u] w fun e w' => ∃ x, e = .returned x ∧ Own w' w.heap.size 2 x (ints (dwI l z)) ∧ Below w.heap.size w w' := by
  have hlen := h.len (P := Try.prog) 22 3 ⟨_, sliceI⟩
  simp only [length_ints] at hlen
  replace hL := hid hL
  replace hz := hid hz
  go_enter Try.func66, Try.ntmps66
  go_wp2_with fail
  refine (own_run u z w h' (by omega)).mono ?_
  rintro e w1 ⟨p, rfl, hp, hb1⟩
  have hz1 := hid hb1.size
  have hO := own_empty w1 2 (B := w1.heap.size) (Nat.le_refl _)
  have hA := (Below.refl w1.heap.size w1).alloc (Nat.le_refl _) (.cells #[] 2)
  have hpA := hid (hp.below hA)
  have hbA := hid (hb1.trans (hA.mono hz1.out))
  have hzA := hid hA.size
  have hpb := hid (fun g (hg : blk p = some g) => (hp.blk_lt hg).2)
  replace hO := hid hO
  clear hA hp hb1
  go_wp2_with fail
  generalize w1.alloc (.cells #[] 2) = w2 at *
  generalize Value.slice (some ⟨w1.heap.size, 0, none⟩) 0 0 = O at *
  go_loopw [6, 7, 8, 9, 10, 11, 12] (fun o i _ _ _ _ _ wr => ∃ (k : Nat) (zz d : List Int), k ≤ l.length ∧ i = .int .i64 k ∧ Hid (Szs zz) ∧ zz.length = n ∧ Hid (d ++ dwI (l.drop k) zz = dwI l z) ∧ d.length ≤ 16 * k ∧ Hid (Own wr w1.heap.size 2 o (ints d)) ∧ Own wr w.heap.size 2 p (ints zz) ∧ Hid (Below w.heap.size w wr) ∧ Hid (w1.heap.size ≤ wr.heap.size)) (fun _ i _ _ _ _ _ _ => l.length - (intOf i).toNat)
  case atStart => exact ⟨0, z, [], by omega, rfl, hz, hzl, hid rfl, by simp, hO, hpA.out, hbA, hzA⟩
  case round =>
    clear hO hpA hbA hz hzl hzA
    obtain ⟨k, zz, d, hk, rfl, hS, hzn, hE, hdl, ho, hown, hb, hzw⟩ := hrel
    by_cases hlt : k < l.length
    case neg =>
      obtain rfl : k = l.length := by omega
      have hd : d = dwI l z := by have := hE.out; rw [List.drop_of_length_le (Nat.le_refl _)] at this; simpa [dwI, dw] using this
      replace hd := hid hd
      go_wp2_with fail
      go_ret
      exact ⟨_, rfl, by rw [← hd.out]; exact ho.out.mono hz1.out, hb.out⟩
    case pos =>
    obtain ⟨q0, q1⟩ := hL.out _ (nth_inn hlt)
    have hi := h.idx (P := Try.prog) 22 sliceI sizeI .i64 k (by omega) (by simpa using hlt)
    simp only [Int.toNat_natCast] at hi
    have hc := (h.below hb.out).int hlt
    obtain ⟨x, hx⟩ : ∃ x, nth l k = x := ⟨_, rfl⟩
    obtain ⟨t, hat⟩ : ∃ t, (nth l k).natAbs = t + 1 := ⟨(nth l k).natAbs - 1, by omega⟩
    have hA := hid (fun w => abs_spec x w (by omega))
    obtain ⟨b, hxb, hbt⟩ : ∃ b : Int, absI x = b ∧ b = (t : Int) + 1 := ⟨_, rfl, by unfold absI; split <;> omega⟩
    have htn : t + 1 < n := by omega
    rw [hx] at hc
    replace hx := hid hx
    replace hat := hid hat
    go_wp2_with fail
    refine (hA.out _).mono ?_
    rintro e w3 ⟨rfl, rfl⟩
    rw [hxb]
    replace hxb := hid hxb
    clear hA
    rename World => wO
    go_wp2_with fail
    go_loop [9, 10] (fun pl j => ∃ r : Nat, r ≤ t ∧ j = .int .i64 r ∧ pl = .int .i64 (sumTo (fun i => nth zz i) r)) (fun _ j => t - (intOf j).toNat)
    case atStart => exact ⟨0, by omega, rfl, rfl⟩
    case round =>
      obtain ⟨r, hr, rfl, rfl⟩ := hrel
      have hsz := sum_bd4 hS.out (k := r) (by omega)
      by_cases hrt : r < t
      · have hir := hown.reads.idx (P := Try.prog) 22 sliceI sizeI .i64 r (by omega) (by simp; omega)
        simp only [Int.toNat_natCast] at hir
        have hcr := hown.reads.int (i := r) (by omega)
        have har := hS.out r (by omega)
        have hnr := hid (sumTo_succ (fun i => nth zz i) r)
        generalize sumTo (fun i => nth zz i) r = s at *
        generalize nth zz r = y at *
        go_wp2_with fail
        go_round
        case rel => exact ⟨r + 1, by omega, by go_num, by rw [hnr.out]⟩
        case measure => simp [intOf] <;> omega
      · obtain rfl : t = r := by omega
        have hzO := hid hb.out.size
        have hi2 := hown.reads.idx (P := Try.prog) 22 sliceI sizeI .i64 (t : Int) (by omega) (by simp; omega)
        have hi3 := hown.reads.idx (P := Try.prog) 22 sliceI sizeI .i64 ((t : Int) + 1) (by omega) (by simp; omega)
        rw [Int.toNat_natCast] at hi2
        rw [show ((t : Int) + 1).toNat = t + 1 by omega] at hi3
        have hwt := Go.IntWalk.i64_in (t : Int) (by omega)
        have hd := hown.reads.cell t _ (ints_at (by omega))
        have hd2 := hown.reads.cell (t + 1) _ (ints_at (by omega))
        have ha1 := hS.out t (by omega)
        have ha2 := hS.out (t + 1) (by omega)
        by_cases hneg : x < 0
        case pos =>
          have hsg := hid (show (nth l k).sign = -1 from by rw [hx.out]; exact sign_neg hneg)
          have hStep := hid (dwI_step hlt hS.out hzn (hL.out _ (nth_inn hlt)) hat.out hsg.out)
          have hLen := dwI_len hS.out hzn (hL.out _ (nth_inn hlt)) hat.out hsg.out
          have hC := hid (fun w' => swap_specI (sumTo (fun i => nth zz i) t) (nth zz t) (nth zz (t + 1)) (-1) w' (by first | exact Or.inl rfl | exact Or.inr rfl) (by omega) (by omega) (by omega) (by omega) (by omega) (by omega))
          have hSw := hid (hS.out.swap (i := t) (by omega))
          generalize hBL : (bl (sumTo (fun i => nth zz i) t).toNat (nth zz t).toNat (nth zz (t + 1)).toNat).map ((-1) * ·) = BL at *
          clear hBL
          generalize sumTo (fun i => nth zz i) t = S at *
          go_wp2_with fail
          have hbD := hid (Below.refl wO.heap.size wO).drew
          go_region_law ((first | (refine step_call4 (hC.out _) (fun _ => by kernel_rfl) rfl (.tmp 45) (.tmp 50) (.tmp 54) (.tmp 55) rfl (by simp [Act.eval]) (by simp [Act.eval]) (by simp [Act.eval]) (by simp [Act.eval]) ?_; rintro e w6 ⟨p6, rfl, hp6, hs6⟩; refine ⟨_, rfl, ?_⟩; have hs6' := hid (hbD.out.trans hs6); obtain ⟨q, w7, hrun, hq, hg7⟩ := app_run (ty := 22) sliceI infoI rfl (ho.out.below hs6'.out) hp6.reads (oneCell_ints _) (Nat.le_trans hzw.out hs6'.out.size) (by simp; omega) (by decide)) | (refine step_app hrun rfl (.tmp 44) (.tmp 56) rfl (by simp [Act.eval]) (by simp [Act.eval]) ?_)))
          all_goals
            have hp7 := (hown.below hs6'.out).keep (w' := w7) fun g hg hgl => hg7.block g hgl (fun e => by have h1 := (ho.out.blk_lt e.symm).1; have h2 := hpb.out g hg; omega)
            have hb7 := hid ((hb.out.trans (hs6'.out.mono hzO.out)).grown hg7 (Nat.le_trans hzO.out hs6'.out.size) (fun j hj => by have h1 := (ho.out.blk_lt hj).1; have h2 := hz1.out; omega))
            have d7 := hp7.reads.cell t _ (ints_at (by omega))
            have d8 := hp7.reads.cell (t + 1) _ (ints_at (by omega))
            have hf := hp7.frozen (i := t) (by simp; omega)
            have hf2 := hp7.frozen (i := t + 1) (by simp; omega)
            have hab := hp7.adr_blk (i := t) (by simp; omega)
            have hab2 := hp7.adr_blk (i := t + 1) (by simp; omega)
            have hne := hp7.adr_ne (i := t) (j := t + 1) (by simp; omega) (by omega)
            have hne2 := hp7.adr_ne (i := t + 1) (j := t) (by simp; omega) (by omega)
            have hst := (hp7.set (i := t) (by simp; omega) (.int .i64 (nth zz (t + 1)))).set (i := t + 1) (by simp; omega) (.int .i64 (nth zz t))
            rw [ints_set, ints_set] at hst
            have hst2 := hid (show Own _ w.heap.size 2 p (ints (swapAt zz t)) from hst)
            have hq2 := hid ((hq.other (a := adr p t) (fun e => by have h1 := (hq.blk_lt e).1; have h2 := hpb.out _ hab.1; omega) (.int .i64 (nth zz (t + 1)))).other (a := adr p (t + 1)) (fun e => by have h1 := (hq.blk_lt e).1; have h2 := hpb.out _ hab2.1; omega) (.int .i64 (nth zz t)))
            have hbF := hid ((hb7.out.setCell hab.2.1 (.int .i64 (nth zz (t + 1)))).setCell hab2.2.1 (.int .i64 (nth zz t)))
            have hEF := hid (show (d ++ BL) ++ dwI (l.drop (k + 1)) (swapAt zz t) = dwI l z by rw [List.append_assoc, ← hStep.out]; exact hE.out)
            have hzF := hid (show w1.heap.size ≤ ((w7.setCell (adr p t) (.int .i64 (nth zz (t + 1)))).setCell (adr p (t + 1)) (.int .i64 (nth zz t))).heap.size from by have h1 := hzw.out; have h2 := hs6'.out.size; have h3 := hg7.size; simp only [World.setCell, Array.size_modify]; omega)
            have hin := hid (show ints (d ++ BL) = ints d ++ ints BL by simp [ints])
            have hlF : (swapAt zz t).length = n := by rw [length_swapAt]; exact hzn
            clear hst hab hab2 hp7 hg7 hq hs6 hp6 hown hd hd2
            go_wp2_with fail
            go_roundw
            case rel => exact ⟨k + 1, swapAt zz t, d ++ BL, by omega, by go_num, hSw, hlF, hEF, by rw [List.length_append]; omega, hid (by rw [hin.out]; exact hq2.out), hst2.out, hbF, hzF⟩
            case measure => simp [intOf] <;> omega

        case neg =>
          have hsg := hid (show (nth l k).sign = 1 from by rw [hx.out]; exact sign_pos (by have := hx.out; omega))
          have hStep := hid (dwI_step hlt hS.out hzn (hL.out _ (nth_inn hlt)) hat.out hsg.out)
          have hLen := dwI_len hS.out hzn (hL.out _ (nth_inn hlt)) hat.out hsg.out
          have hC := hid (fun w' => swap_specI (sumTo (fun i => nth zz i) t) (nth zz t) (nth zz (t + 1)) (1) w' (by first | exact Or.inl rfl | exact Or.inr rfl) (by omega) (by omega) (by omega) (by omega) (by omega) (by omega))
          have hSw := hid (hS.out.swap (i := t) (by omega))
          generalize hBL : (bl (sumTo (fun i => nth zz i) t).toNat (nth zz t).toNat (nth zz (t + 1)).toNat).map ((1) * ·) = BL at *
          clear hBL
          generalize sumTo (fun i => nth zz i) t = S at *
          go_wp2_with fail
          have hbD := hid (Below.refl wO.heap.size wO).drew
          go_region_law ((first | (refine step_call4 (hC.out _) (fun _ => by kernel_rfl) rfl (.tmp 45) (.tmp 50) (.tmp 54) (.tmp 55) rfl (by simp [Act.eval]) (by simp [Act.eval]) (by simp [Act.eval]) (by simp [Act.eval]) ?_; rintro e w6 ⟨p6, rfl, hp6, hs6⟩; refine ⟨_, rfl, ?_⟩; have hs6' := hid (hbD.out.trans hs6); obtain ⟨q, w7, hrun, hq, hg7⟩ := app_run (ty := 22) sliceI infoI rfl (ho.out.below hs6'.out) hp6.reads (oneCell_ints _) (Nat.le_trans hzw.out hs6'.out.size) (by simp; omega) (by decide)) | (refine step_app hrun rfl (.tmp 44) (.tmp 56) rfl (by simp [Act.eval]) (by simp [Act.eval]) ?_)))
          all_goals
            have hp7 := (hown.below hs6'.out).keep (w' := w7) fun g hg hgl => hg7.block g hgl (fun e => by have h1 := (ho.out.blk_lt e.symm).1; have h2 := hpb.out g hg; omega)
            have hb7 := hid ((hb.out.trans (hs6'.out.mono hzO.out)).grown hg7 (Nat.le_trans hzO.out hs6'.out.size) (fun j hj => by have h1 := (ho.out.blk_lt hj).1; have h2 := hz1.out; omega))
            have d7 := hp7.reads.cell t _ (ints_at (by omega))
            have d8 := hp7.reads.cell (t + 1) _ (ints_at (by omega))
            have hf := hp7.frozen (i := t) (by simp; omega)
            have hf2 := hp7.frozen (i := t + 1) (by simp; omega)
            have hab := hp7.adr_blk (i := t) (by simp; omega)
            have hab2 := hp7.adr_blk (i := t + 1) (by simp; omega)
            have hne := hp7.adr_ne (i := t) (j := t + 1) (by simp; omega) (by omega)
            have hne2 := hp7.adr_ne (i := t + 1) (j := t) (by simp; omega) (by omega)
            have hst := (hp7.set (i := t) (by simp; omega) (.int .i64 (nth zz (t + 1)))).set (i := t + 1) (by simp; omega) (.int .i64 (nth zz t))
            rw [ints_set, ints_set] at hst
            have hst2 := hid (show Own _ w.heap.size 2 p (ints (swapAt zz t)) from hst)
            have hq2 := hid ((hq.other (a := adr p t) (fun e => by have h1 := (hq.blk_lt e).1; have h2 := hpb.out _ hab.1; omega) (.int .i64 (nth zz (t + 1)))).other (a := adr p (t + 1)) (fun e => by have h1 := (hq.blk_lt e).1; have h2 := hpb.out _ hab2.1; omega) (.int .i64 (nth zz t)))
            have hbF := hid ((hb7.out.setCell hab.2.1 (.int .i64 (nth zz (t + 1)))).setCell hab2.2.1 (.int .i64 (nth zz t)))
            have hEF := hid (show (d ++ BL) ++ dwI (l.drop (k + 1)) (swapAt zz t) = dwI l z by rw [List.append_assoc, ← hStep.out]; exact hE.out)
            have hzF := hid (show w1.heap.size ≤ ((w7.setCell (adr p t) (.int .i64 (nth zz (t + 1)))).setCell (adr p (t + 1)) (.int .i64 (nth zz t))).heap.size from by have h1 := hzw.out; have h2 := hs6'.out.size; have h3 := hg7.size; simp only [World.setCell, Array.size_modify]; omega)
            have hin := hid (show ints (d ++ BL) = ints d ++ ints BL by simp [ints])
            have hlF : (swapAt zz t).length = n := by rw [length_swapAt]; exact hzn
            clear hst hab hab2 hp7 hg7 hq hs6 hp6 hown hd hd2
            go_wp2_with fail
            go_roundw
            case rel => exact ⟨k + 1, swapAt zz t, d ++ BL, by omega, by go_num, hSw, hlF, hEF, by rw [List.length_append]; omega, hid (by rw [hin.out]; exact hq2.out), hst2.out, hbF, hzF⟩
            case measure => simp [intOf] <;> omega



end Go.Proofs.Ytoomkkeffejcdaa
